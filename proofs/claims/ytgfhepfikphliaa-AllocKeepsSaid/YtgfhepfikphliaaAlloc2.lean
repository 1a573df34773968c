/-
  alloc.Next of an inode that may be, and as many pieces as blocks.
-/
import Derived.Test.YtgfhepfikphliaaAlloc1
import Derived.Test.YtgfhepfikphliaaInode3
namespace Go.Proofs.Ytgfhepfikphliaa.Al
open Go.RowKit Wd In
set_option linter.unusedVariables false

theorem take_next {xs ys : List Int} {n : Nat} {v : Int} (h : xs.take n = ys.take n) (hx : xs[n]? = some v) (hy : ys[n]? = some v) : xs.take (n + 1) = ys.take (n + 1) := by
  rw [List.take_add_one, List.take_add_one, hx, hy, h]
theorem take_set_next {xs ys : List Int} {n : Nat} {v : Int} (h : xs.take n = ys.take n) (hn : n < xs.length) (hy : ys[n]? = some v) : (xs.set n v).take (n + 1) = ys.take (n + 1) := by
  rw [List.take_add_one, List.take_add_one, hy, List.getElem?_set_self hn, List.take_set_of_le (Nat.le_refl n), h]
theorem at_of_take {xs ys : List Int} {n : Nat} (h : xs.take n = ys.take n) (i : Nat) (hi : i < n) : xs[i]? = ys[i]? := by
  have := congrArg (fun l => l[i]?) h
  simpa [hi] using this
theorem take5_start (x old now : List Int) (hx : x.take 5 = (hdN now).take 5) (hl : x.length = 37) (hn : now.length = 37) (ys : List Int) : (x.take 5 ++ ys).take 5 = (X1 old now).take 5 := by
  have e : ((hdN now).take 5).length = 5 := by rw [List.length_take, hdN_len hn]; omega
  unfold X1
  rw [hx, List.take_append_of_le_length (by omega), List.take_append_of_le_length (by omega)]
theorem len5 {x : List Int} (hl : x.length = 37) : (x.take 5 ++ zIno.drop 5).length = 37 := by simp [zIno, hl]
theorem zero_tail (x : List Int) (hl : x.length = 37) (i : Nat) (hi : i < 32) : (x.take 5 ++ zIno.drop 5)[5 + i]? = some 0 := by
  rw [List.getElem?_append_right (by rw [List.length_take]; omega), List.length_take, hl, show 5 + i - min 5 37 = i by omega]
  rw [show zIno.drop 5 = List.replicate 32 0 from rfl, List.getElem?_replicate, if_pos hi]

theorem X1_3 (old : List Int) {now : List Int} {k0 n3 : Int} (h : now.length = 37) (h0 : now[0]? = some k0) (hk : ¬ k0 = 0) (h3 : now[3]? = some n3) : (X1 old now)[3]? = some n3 := by
  have e : hdN now = now := by
    unfold hdN
    rw [if_neg]
    rw [List.getD_eq_getElem?_getD, h0]
    exact hk
  unfold X1
  rw [e, List.getElem?_append_left (by rw [List.length_take]; omega), List.getElem?_take, if_pos (by decide), h3]
theorem drop_cons {xs : List Int} {i : Nat} {v : Int} (h : xs[i]? = some v) : xs.drop i = v :: xs.drop (i + 1) := by
  obtain ⟨hi, hv⟩ := List.getElem?_eq_some_iff.1 h
  rw [List.drop_eq_getElem_cons hi, hv]
set_option maxRecDepth 100000 in
set_option maxHeartbeats 1600000 in
theorem next_none (old now ps ts : List Int) (Ap At : Option Addr) (cp ct : Nat) (w : World) (hold : old.length = 37) (hnow : now.length = 37) (h : chkL old = true) (hlen : ps.length = ts.length) (hbn : ∀ x ∈ now, -9223372036854775808 ≤ x ∧ x ≤ 9223372036854775807)
    (hps : Sl w w.heap.size 1 Ap ps.length (ps.map (Value.int .i64))) (hts : Sl w w.heap.size 1 At ts.length (ts.map (Value.int .i64))) (hbig : ps.length ≤ 140737488355328) (h0 : now.getD 0 0 = 0) :
    Calls Try.prog 9 #[.agg (ints old), .agg (ints now), .slice Ap ps.length cp, .slice At ts.length ct] w (NextR w (nextM old now ps ts)) := by
  obtain ⟨k0, s1, n2, n3, n4, np, hnowe, hnp⟩ := five hnow
  obtain ⟨q0, q1, q2, q3, q4, qp, holde, hqp⟩ := five hold
  have hn0 : now[0]? = some k0 := by rw [hnowe]; rfl
  have hn1 : now[1]? = some s1 := by rw [hnowe]; rfl
  have hn3 : now[3]? = some n3 := by rw [hnowe]; rfl
  have hq0 : old[0]? = some q0 := by rw [holde]; rfl
  have hq3 : old[3]? = some q3 := by rw [holde]; rfl
  have hg0 : now.getD 0 0 = k0 := by rw [hnowe]; rfl
  have hg1 : now.getD 1 0 = s1 := by rw [hnowe]; rfl
  have hkeep : keeps old now = (!(q0 == 0) && q3 == n3) := by rw [hnowe, holde]; rfl
  have hbs := hbn s1 (List.mem_of_getElem? hn1)
  have hm : nextM old now ps ts = (goP (blN now) (-1) ps ts (X1 old now)).bind fun X => if chkL X = true then some (X, goneL old X) else none := by
    unfold nextM
    rw [if_pos ⟨h, hlen⟩]
  rw [hg0] at h0
  have hlenI : ((ps.length : Int) != (ts.length : Int)) = false := by rw [hlen]; simp
  obtain ⟨BV, hBV⟩ : ∃ B, B = blocksN s1 := ⟨_, rfl⟩
  have hbl := fun w' => blocks_any s1 w' hbs.1 hbs.2
  rw [← hBV] at hbl
  have HBL := Lib.hid hbl
  have HM := Lib.hid hm
  have HO := Lib.hid hold
  have HN := Lib.hid hnow
  have HCK := Lib.hid (checkL hold)
  rw [h] at HCK
  have HOB := Lib.hid (chk_ptrs hold h)
  have HN0 := Lib.hid hn0
  have HN1 := Lib.hid hn1
  have HN3 := Lib.hid hn3
  have HQ0 := Lib.hid hq0
  have HQ3 := Lib.hid hq3
  have HK := Lib.hid hkeep
  have HPS := Lib.hid hps
  have HTS := Lib.hid hts
  have HLEN := Lib.hid hlen
  have HBN : Hid (blN now = 0) := by show _ = _; unfold blN; rw [hg0, if_pos h0]
  have HHD : Hid (zIno.take 5 = (hdN now).take 5) := by show _ = _; unfold hdN; rw [hg0, if_pos h0]
  subst h0
  clear hbl hm hold hnow h hn0 hn1 hn3 hq0 hq3 hg0 hg1 hkeep hbs hps hts hlen hbn hnowe holde hnp hqp hBV
  go_enter Try.func9, Try.ntmps9
  go_wp2_with (first
    | ((with_reducible show wpList _ _ _ (⟨some 4, _, _, _, _, _⟩ :: _) _ _); refine wpList_box_ino rfl _ rfl HO.out rfl ?_; intro w1 hr1 hb1 hlt1)
    | ((with_reducible show wpList _ _ _ (⟨some 5, _, _, _, _, _⟩ :: _) _ _); refine wpList_box_ino rfl _ rfl HN.out rfl ?_; intro w2 hr2 hb2 hlt2)
    | ((with_reducible show wpList _ _ _ (⟨some 8, _, _, _, _, _⟩ :: _) _ _); refine wpList_alloc_ino rfl rfl ?_; intro w3 hr3 hb3 hlt3)
    | ((with_reducible show wpList _ _ _ (⟨some 11, _, _, _, _, _⟩ :: _) _ _); refine wpList_alloc_ino rfl rfl ?_; intro w4 hr4 hb4 hlt4; have HS := Lib.hid (St.start hr1 hb1 hlt1 hr2 hb2 hlt2 hr3 hb3 hlt3 hr4 hb4 hlt4); clear hr1 hb1 hlt1 hr2 hb2 hlt2 hr3 hb3 hlt3 hr4 hb4 hlt4)
    | ((with_reducible show wpList _ _ _ (⟨some 23, _, _, _, _, _⟩ :: _) _ _); refine wpList_load_ino rfl _ rfl HS.out.r4 HO.out rfl ?_)
    | (go_at_call 23; refine (HCK.out _).mono ?_; rintro e w5 ⟨rfl, hb5⟩; replace HS := Lib.hid (HS.out.below hb5 HS.out.o4); clear hb5)
    | ((with_reducible show wpList _ _ _ (⟨some 35, _, _, _, _, _⟩ :: _) _ _); refine wpList_load_num rfl _ _ rfl Try.underlying3 HS.out.r5 1 s1 HN1.out rfl ?_)
    | (go_at_call 24; refine (HBL.out _).mono ?_; rintro e w6 ⟨rfl, rfl⟩)
    | ((with_reducible show wpList _ _ _ (⟨some 38, _, _, _, _, _⟩ :: _) _ _); refine wpList_load_num rfl _ _ rfl Try.underlying3 HS.out.r5 0 _ HN0.out rfl ?_)
    | ((with_reducible show wpList _ _ _ (⟨some 40, _, _, _, _, _⟩ :: _) _ _); refine wpList_load_ino rfl _ rfl HS.out.r11 zIno_len rfl ?_)
    | ((with_reducible show wpList _ _ _ (⟨none, Op.store 24 (.tmp 5) _, _, _, _, _⟩ :: _) _ _); refine wpList_store_ino rfl _ _ rfl HS.out.r5 HN.out zIno_len rfl rfl ?_; intro w7 hr7 ho7; replace HS := Lib.hid (HS.out.on5 hr7 ho7); clear hr7 ho7)
    | ((with_reducible show wpList _ _ _ (⟨some 42, _, _, _, _, _⟩ :: _) _ _); refine wpList_load_ptrs rfl _ rfl HS.out.r11 zIno_len rfl ?_)
    | ((with_reducible show wpList _ _ _ (⟨none, Op.store 22 (.tmp 43) _, _, _, _, _⟩ :: _) _ _); refine wpList_store_ptrs rfl _ _ rfl HS.out.r5 (zIno_len) (by simp [zIno]) rfl rfl ?_; intro w8 hr8 ho8; replace HS := Lib.hid (HS.out.on5 hr8 ho8); clear hr8 ho8))
  go_loopw [44] (fun j wr => ∃ k : Nat, k ≤ 32 ∧ j = .int .i64 (k : Int) ∧ ∃ xs : List Int, xs.length = 37 ∧ xs.take (5 + k) = (X1 old now).take (5 + k) ∧ (∀ i : Nat, k ≤ i → i < 32 → xs[5 + i]? = some 0) ∧ St w wr w.heap.size w1.heap.size w2.heap.size w3.heap.size old xs) (fun j _ => 32 - (intOf j).toNat)
  case atStart =>
    exact ⟨0, by omega, rfl, _, len5 zIno_len, take5_start zIno old now HHD.out zIno_len HN.out _, fun i _ hi => zero_tail zIno zIno_len i hi, HS.out⟩
  case round =>
    obtain ⟨k, hk, rfl, xs, hl, ht, hz, hs⟩ := hrel
    have HL := Lib.hid hl
    have HT := Lib.hid ht
    have HZ := Lib.hid hz
    have HS := Lib.hid hs
    clear hl ht hz hs
    by_cases hlt : k < 32
    · have hltI : (k : Int) < 32 := by omega
      have hkn : ¬ ((k : Int) < 0) := by omega
      have hv : (X1 old now)[5 + k]? = some 0 := by rw [X1_at old HN.out k hlt, ptr1, HBN.out, if_neg (fun h => hkn h.1)]
      have HV := Lib.hid hv
      clear hv
      go_wp2
      go_roundw
      case measure => simp [intOf]; omega
      case rel => exact ⟨k + 1, by omega, by simp, xs, HL.out, take_next HT.out (HZ.out k (Nat.le_refl _) hlt) HV.out, fun i h1 h2 => HZ.out i (by omega) h2, HS.out⟩
    · have hge : (32 : Int) ≤ (k : Int) := by omega
      have hxs : xs = X1 old now := by
        have h := HT.out
        rw [List.take_of_length_le (by rw [HL.out]; omega), List.take_of_length_le (by rw [X1_len HN.out]; omega)] at h
        exact h
      subst hxs
      clear HT HZ
      have hY := X1_len (old := old) HN.out
      have HY := Lib.hid hY
      obtain ⟨Y, hYe⟩ : ∃ Y, Y = X1 old now := ⟨_, rfl⟩
      rw [← hYe] at HS HY HM
      clear hYe hY HL
      go_wp2_with fail
      go_loopw [72, 14] (fun j l wr => ∃ i : Nat, i ≤ ps.length ∧ j = .int .i64 (i : Int) ∧ ∃ (last : Int) (xs : List Int), l = .int .i64 last ∧ -1 ≤ last ∧ xs.length = 37 ∧ goP 0 (-1) ps ts Y = goP 0 last (ps.drop i) (ts.drop i) xs ∧ St w wr w.heap.size w1.heap.size w2.heap.size w3.heap.size old xs) (fun j _ _ => ps.length - (intOf j).toNat)
      case atStart => exact ⟨0, by omega, rfl, -1, Y, rfl, by omega, HY.out, by simp, HS.out⟩
      case round =>
        obtain ⟨i, hi, rfl, last, xs, rfl, hlast, hl, hgo, hs⟩ := hrel
        have HL := Lib.hid hl
        replace HS := Lib.hid hs
        clear hl hs
        by_cases hlt2 : i < ps.length
        · have hiI : (i : Int) < (ps.length : Int) := by omega
          have hltt : i < ts.length := by rw [← HLEN.out]; exact hlt2
          have hitI : (i : Int) < (ts.length : Int) := by omega
          obtain ⟨kz, hkz⟩ : ∃ z, ps[i]? = some z := ⟨_, List.getElem?_eq_getElem hlt2⟩
          obtain ⟨tz, htz⟩ : ∃ z, ts[i]? = some z := ⟨_, List.getElem?_eq_getElem hltt⟩
          obtain ⟨bp, op, rfl, hbp, hcp⟩ := (HPS.out.below HS.out.bel).at (by omega) (by decide)
          obtain ⟨bt, ot, rfl, hbt, hct⟩ := (HTS.out.below HS.out.bel).at (by omega) (by decide)
          have hc1 := hcp i (.int .i64 kz) (by simp [hkz])
          have hc2 := hct i (.int .i64 tz) (by simp [htz])
          rw [drop_cons hkz, drop_cons htz] at hgo
          have HGO := Lib.hid hgo
          clear hcp hct hbp hbt hkz htz hgo hltt
          by_cases c1 : kz ≤ last
          · have HF : Hid (nextM old now ps ts = none) := by show _ = _; rw [HM.out, HBN.out, HGO.out, goP, if_pos (.inl c1)]; rfl
            go_wp2_with (first
                | ((with_reducible show wpList _ _ _ (⟨some 89, _, _, _, _, _⟩ :: _) _ _); refine wpList_load_ino rfl _ rfl HS.out.r11 zIno_len rfl ?_)
                | ((with_reducible show wpList _ _ _ (⟨none, Op.store 24 (.tmp 8) _, _, _, _, _⟩ :: _) _ _); refine wpList_store_ino rfl _ _ rfl HS.out.r8 zIno_len zIno_len rfl rfl ?_; intro w9 hr9 ho9))
            (try simp only [Exit.inBlock, Exit.then])
            refine bodyPost_ret (results_ino3 rfl hr9 zIno_len _ rfl) rfl ?_
            exact nextR_none HF.out (HS.out.end8 ho9)
          · by_cases c2 : 0 ≤ kz
            · have HF : Hid (nextM old now ps ts = none) := by show _ = _; rw [HM.out, HBN.out, HGO.out, goP, if_pos (.inr (.inl c2))]; rfl
              go_wp2_with (first
                  | ((with_reducible show wpList _ _ _ (⟨some 89, _, _, _, _, _⟩ :: _) _ _); refine wpList_load_ino rfl _ rfl HS.out.r11 zIno_len rfl ?_)
                  | ((with_reducible show wpList _ _ _ (⟨none, Op.store 24 (.tmp 8) _, _, _, _, _⟩ :: _) _ _); refine wpList_store_ino rfl _ _ rfl HS.out.r8 zIno_len zIno_len rfl rfl ?_; intro w9 hr9 ho9))
              (try simp only [Exit.inBlock, Exit.then])
              refine bodyPost_ret (results_ino3 rfl hr9 zIno_len _ rfl) rfl ?_
              exact nextR_none HF.out (HS.out.end8 ho9)
            · by_cases c3 : 32 ≤ kz
              · have HF : Hid (nextM old now ps ts = none) := by show _ = _; rw [HM.out, HBN.out, HGO.out, goP, if_pos (.inr (.inr c3))]; rfl
                go_wp2_with (first
                    | ((with_reducible show wpList _ _ _ (⟨some 89, _, _, _, _, _⟩ :: _) _ _); refine wpList_load_ino rfl _ rfl HS.out.r11 zIno_len rfl ?_)
                    | ((with_reducible show wpList _ _ _ (⟨none, Op.store 24 (.tmp 8) _, _, _, _, _⟩ :: _) _ _); refine wpList_store_ino rfl _ _ rfl HS.out.r8 zIno_len zIno_len rfl rfl ?_; intro w9 hr9 ho9))
                (try simp only [Exit.inBlock, Exit.then])
                refine bodyPost_ret (results_ino3 rfl hr9 zIno_len _ rfl) rfl ?_
                exact nextR_none HF.out (HS.out.end8 ho9)
              · exfalso; omega
        · have hie : i = ps.length := by omega
          have hge2 : (ps.length : Int) ≤ (i : Int) := by omega
          have HX : Hid (goP 0 (-1) ps ts Y = some xs) := by
            show _ = _
            rw [hgo, hie, List.drop_of_length_le (Nat.le_refl _)]
            simp [goP]
          have HCX := Lib.hid (checkL HL.out)
          clear hgo hie
          cases hchk : chkL xs
          · have HF : Hid (nextM old now ps ts = none) := by show _ = _; rw [HM.out, HBN.out, HX.out]; simp [hchk]
            rw [hchk] at HCX
            clear hchk
            go_wp2_with (first
              | ((with_reducible show wpList _ _ _ (⟨some 99, _, _, _, _, _⟩ :: _) _ _); refine wpList_load_ino rfl _ rfl HS.out.r5 HL.out rfl ?_)
              | (go_at_call 23; refine (HCX.out _).mono ?_; rintro e w10 ⟨rfl, hb10⟩; replace HS := Lib.hid (HS.out.below hb10 HS.out.o4); clear hb10)
              | ((with_reducible show wpList _ _ _ (⟨some 102, _, _, _, _, _⟩ :: _) _ _); refine wpList_load_ino rfl _ rfl HS.out.r11 zIno_len rfl ?_)
              | ((with_reducible show wpList _ _ _ (⟨none, Op.store 24 (.tmp 8) _, _, _, _, _⟩ :: _) _ _); refine wpList_store_ino rfl _ _ rfl HS.out.r8 zIno_len zIno_len rfl rfl ?_; intro w9 hr9 ho9))
            (try simp only [Exit.inBlock, Exit.then])
            refine bodyPost_ret (results_ino3 rfl hr9 zIno_len _ rfl) rfl ?_
            exact nextR_none HF.out (HS.out.end8 ho9)
          · have HF : Hid (nextM old now ps ts = some (xs, goneL old xs)) := by show _ = _; rw [HM.out, HBN.out, HX.out]; simp [hchk]
            rw [hchk] at HCX
            have HPB := Lib.hid (chk_ptrs HL.out hchk)
            clear hchk
            go_wp2_with (first
              | ((with_reducible show wpList _ _ _ (⟨some 99, _, _, _, _, _⟩ :: _) _ _); refine wpList_load_ino rfl _ rfl HS.out.r5 HL.out rfl ?_)
              | (go_at_call 23; refine (HCX.out _).mono ?_; rintro e w10 ⟨rfl, hb10⟩; replace HS := Lib.hid (HS.out.below hb10 HS.out.o4); clear hb10)
              | ((with_reducible show wpList _ _ _ (⟨some 17, _, _, _, _, _⟩ :: _) _ _); refine wpList_alloc_stay rfl rfl ?_; intro w11 hy11 hb11 hlt11; have hbs : Hid (w3.heap.size < w10.heap.size) := HS.out.o4; replace HS := Lib.hid (HS.out.below hb11 HS.out.o4))
              | ((with_reducible show wpList _ _ _ (⟨some 104, _, _, _, _, _⟩ :: _) _ _); refine wpList_load_ptrs rfl _ rfl HS.out.r5 HL.out rfl ?_))
            obtain ⟨bs, hbse⟩ : ∃ bs, bs = w10.heap.size := ⟨_, rfl⟩
            rw [← hbse] at hy11 hlt11 hbs ⊢
            obtain ⟨P, hP⟩ : ∃ P, P = xs.drop 5 := ⟨_, rfl⟩
            have hPl : P.length = 32 := by rw [hP, List.length_drop, HL.out]
            rw [← hP] at HPB ⊢
            have HYY := Lib.hid hy11
            have HPE := Lib.hid hP
            have HPL := Lib.hid hPl
            have HLT := Lib.hid hlt11
            clear hP hy11 hb11 hlt11 hPl hbse
            go_loopw [105] (fun j wr => ∃ k : Nat, k ≤ 32 ∧ j = .int .i64 (k : Int) ∧ Stay wr bs (P.take k) ∧ bs < wr.heap.size ∧ St w wr w.heap.size w1.heap.size w2.heap.size w3.heap.size old xs) (fun j _ => 32 - (intOf j).toNat)
            case atStart => exact ⟨0, by omega, rfl, HYY.out, HLT.out, HS.out⟩
            case round =>
              obtain ⟨k3, hk3, rfl, hy, hbw, hs⟩ := hrel
              replace HYY := Lib.hid hy
              replace HS := Lib.hid hs
              replace HLT := Lib.hid hbw
              clear hy hs hbw
              by_cases hlt3 : k3 < 32
              · have hltI3 : (k3 : Int) < 32 := by omega
                obtain ⟨p, hp⟩ : ∃ p, P[k3]? = some p := ⟨_, List.getElem?_eq_getElem (by rw [HPL.out]; exact hlt3)⟩
                obtain ⟨hp0, hp1⟩ := HPB.out k3 p hp
                obtain ⟨pn, rfl⟩ := Int.eq_ofNat_of_zero_le hp0
                have HT1 : Hid (P.take (k3 + 1) = P.take k3 ++ [(pn : Int)]) := by show _ = _; rw [List.take_add_one, hp]; rfl
                have HPP := Lib.hid hp
                clear hp
                go_wp2_with (first
                  | ((with_reducible show wpList _ _ _ (⟨some 107, _, _, _, _, _⟩ :: _) _ _); refine wpList_index_ptrs rfl _ _ rfl k3 hlt3 _ HPP.out rfl rfl ?_)
                  | ((with_reducible show wpList _ _ _ (⟨none, Op.store 4 (.tmp 109) _, _, _, _, _⟩ :: _) _ _); refine wpList_store_stay rfl _ _ _ rfl (by kernel_rfl) HYY.out pn (by omega) rfl rfl ?_; intro w12 hy12 ho12))
                go_roundw
                case measure => simp [intOf]; omega
                case rel => exact ⟨k3 + 1, by omega, by simp, by rw [HT1.out]; exact hy12, Nat.lt_of_lt_of_le HLT.out ho12.size, HS.out.only ho12 hbs.out⟩
              · have hge3 : (32 : Int) ≤ (k3 : Int) := by omega
                have HYP : Hid (Stay wr bs P) := by
                  have := HYY.out
                  rwa [List.take_of_length_le (by rw [HPL.out]; omega)] at this
                clear HYY
                go_wp2_with ((with_reducible show wpList _ _ _ (⟨some 112, _, _, _, _, _⟩ :: _) _ _); refine wpList_load_ptrs rfl _ rfl HS.out.r4 HO.out rfl ?_)
                obtain ⟨i0, hi0, hz0, hz1, hz2⟩ := info_parts infoI
                obtain ⟨QO, hQO⟩ : ∃ QO, QO = old.drop 5 := ⟨_, rfl⟩
                have hQl : QO.length = 32 := by rw [hQO, List.length_drop, HO.out]
                have HQB : Hid (∀ (k : Nat) (p : Int), QO[k]? = some p → 0 ≤ p ∧ p ≤ 1023) := by rw [hQO]; exact HOB.out
                have HGN : Hid (∀ (k : Nat) (q : Int), QO[k]? = some q → ((QO.take (k + 1)).filter fun p => !(p == 0) && !(P.contains p)) = ((QO.take k).filter fun p => !(p == 0) && !(P.contains p)) ++ (if q = 0 then [] else if P.contains q then [] else [q])) := by
                  rw [hQO, HPE.out]
                  exact fun k q hq => gone_next hq
                have HGE : Hid ((QO.filter fun p => !(p == 0) && !(P.contains p)) = goneL old xs) := by rw [hQO, HPE.out]; rfl
                have HQL := Lib.hid hQl
                rw [← hQO]
                obtain ⟨B9, hB9⟩ : ∃ B9, B9 = wr.heap.size := ⟨_, rfl⟩
                have HB9 := Lib.hid hB9
                have hbsB : bs < B9 := by rw [hB9]; exact HLT.out
                clear hQO hQl hB9
                go_loopw [113, 20] (fun j b wr => ∃ k : Nat, k ≤ 32 ∧ j = .int .i64 (k : Int) ∧ ∃ G : List Int, G = ((QO.take k).filter fun p => !(p == 0) && !(P.contains p)) ∧ G.length ≤ k ∧ wr.ownsRow B9 3 1 b G.length (G.map (Value.int .i64)) ∧ B9 ≤ wr.heap.size ∧ Stay wr bs P ∧ St w wr w.heap.size w1.heap.size w2.heap.size w3.heap.size old xs) (fun j _ _ => 32 - (intOf j).toNat)
                case atStart => exact ⟨0, by omega, rfl, [], rfl, Nat.le_refl _, World.ownsRow_nil _ _ _ _, by rw [HB9.out]; exact Nat.le_refl _, HYP.out, HS.out⟩
                case round =>
                  obtain ⟨k4, hk4, rfl, G, hG, hGl, hown, hB9w, hy, hs⟩ := hrel
                  obtain ⟨A9, c9, rfl, _⟩ := (show Mine wr B9 3 1 _ G.length (G.map (Value.int .i64)) from .inr hown).form
                  have HOWN := Lib.hid hown
                  replace HYP := Lib.hid hy
                  replace HS := Lib.hid hs
                  have HG := Lib.hid hG
                  clear hown hy hs hG
                  by_cases hlt4 : k4 < 32
                  · have hltI4 : (k4 : Int) < 32 := by omega
                    obtain ⟨q, hq⟩ : ∃ q, QO[k4]? = some q := ⟨_, List.getElem?_eq_getElem (by rw [HQL.out]; exact hlt4)⟩
                    obtain ⟨hp0, hp1⟩ := HQB.out k4 q hq
                    have HGX := Lib.hid (HGN.out k4 q hq)
                    rw [← HG.out] at HGX
                    have HQQ := Lib.hid hq
                    clear hq
                    by_cases h0 : q = 0
                    · have h0b : (q != 0) = false := by simp [h0]
                      rw [if_pos h0, List.append_nil] at HGX
                      clear h0
                      go_wp2_with ((with_reducible show wpList _ _ _ (⟨some 115, _, _, _, _, _⟩ :: _) _ _); refine wpList_index_ptrs rfl _ _ rfl k4 hlt4 _ HQQ.out rfl rfl ?_)
                      go_roundw
                      case measure => simp [intOf]; omega
                      case rel => exact ⟨k4 + 1, by omega, by simp, G, HGX.out.symm, by omega, HOWN.out, hB9w, HYP.out, HS.out⟩
                    · obtain ⟨qn, rfl⟩ := Int.eq_ofNat_of_zero_le hp0
                      have h0b : ((qn : Int) != 0) = true := by simp; omega
                      rw [if_neg h0] at HGX
                      clear h0
                      cases hcon : P.contains (qn : Int)
                      · rw [hcon] at HGX
                        have HC := Lib.hid hcon
                        clear hcon
                        go_wp2_with (first
                          | ((with_reducible show wpList _ _ _ (⟨some 115, _, _, _, _, _⟩ :: _) _ _); refine wpList_index_ptrs rfl _ _ rfl k4 hlt4 _ HQQ.out rfl rfl ?_)
                          | ((with_reducible show wpList _ _ _ (⟨some 121, _, _, _, _, _⟩ :: _) _ _); refine wpList_load_stay rfl _ _ rfl Try.underlying4 HYP.out qn (by omega) rfl _ HC.out ?_)
                          | (at_builtin; refine wpList_append_mine rfl (.tmp 124) (.tmp 126) _ _ rfl B9 3 i0 (.int .i64 0) 1 8 hz1 hz2 rfl (by decide) _ _ _ rfl (Mine.alloc (.inr HOWN.out) _) _ 1 [.int .i64 (qn : Int)] rfl (Gives.elem Try.underlying25 hi0 hz0 hz1 _ rfl) (by simp only [maxLen]; omega) (by omega) (by simp; omega) ?_; intro A2 c2 w12 hm12 hg12 hb12 hat12 hown12))
                        go_roundw
                        case measure => simp [intOf]; omega
                        case rel =>
                          have hbb : Below B9 wr w12 := ((Below.refl _ wr).alloc hB9w _).trans hb12
                          have e : G.map (Value.int .i64) ++ [.int .i64 (qn : Int)] = (G ++ [(qn : Int)]).map (Value.int .i64) := by simp
                          rw [e] at hown12
                          exact ⟨k4 + 1, by omega, by simp, G ++ [(qn : Int)], HGX.out.symm, by simp; omega, by rw [List.length_append]; exact hown12 (.inl (by decide)), Nat.le_trans hB9w hbb.size, HYP.out.below hbb hbsB, HS.out.below hbb (Nat.lt_trans hbs.out hbsB)⟩
                      · rw [hcon] at HGX
                        have HC := Lib.hid hcon
                        have HGX2 : Hid (((QO.take (k4 + 1)).filter fun p => !(p == 0) && !(P.contains p)) = G) := by
                          have := HGX.out
                          rw [if_pos rfl, List.append_nil] at this
                          exact this
                        clear hcon
                        go_wp2_with (first
                          | ((with_reducible show wpList _ _ _ (⟨some 115, _, _, _, _, _⟩ :: _) _ _); refine wpList_index_ptrs rfl _ _ rfl k4 hlt4 _ HQQ.out rfl rfl ?_)
                          | ((with_reducible show wpList _ _ _ (⟨some 121, _, _, _, _, _⟩ :: _) _ _); refine wpList_load_stay rfl _ _ rfl Try.underlying4 HYP.out qn (by omega) rfl _ HC.out ?_))
                        go_roundw
                        case measure => simp [intOf]; omega
                        case rel => exact ⟨k4 + 1, by omega, by simp, G, HGX2.out.symm, by omega, HOWN.out, hB9w, HYP.out, HS.out⟩
                  · have hge4 : (32 : Int) ≤ (k4 : Int) := by omega
                    have hGe : Hid (G = goneL old xs) := by
                      show _ = _
                      rw [← HGE.out, HG.out, List.take_of_length_le (by rw [HQL.out]; omega)]
                    go_wp2_with (first
                      | ((with_reducible show wpList _ _ _ (⟨some 129, _, _, _, _, _⟩ :: _) _ _); refine wpList_load_ino rfl _ rfl HS.out.r5 HL.out rfl ?_)
                      | ((with_reducible show wpList _ _ _ (⟨none, Op.store 24 (.tmp 8) _, _, _, _, _⟩ :: _) _ _); refine wpList_store_ino rfl _ _ rfl HS.out.r8 zIno_len HL.out rfl rfl ?_; intro w13 hr13 ho13))
                    (try simp only [Exit.inBlock, Exit.then])
                    refine bodyPost_ret (results_ino3 rfl hr13 HL.out _ rfl) rfl ?_
                    have ho := own_only HOWN.out ho13 (show w2.heap.size < B9 by have := HS.out.o3; have := hbs.out; omega)
                    have hsl := ho
                    rw [hGe.out] at hsl
                    exact nextR_some HF.out (by rw [← hGe.out]) hsl (show w.heap.size ≤ B9 by have := HS.out.o1; have := HS.out.o2; have := HS.out.o3; have := hbs.out; omega) (HS.out.end8 ho13)
set_option maxRecDepth 100000 in
set_option maxHeartbeats 1600000 in
theorem next_some (old now ps ts : List Int) (Ap At : Option Addr) (cp ct : Nat) (w : World) (hold : old.length = 37) (hnow : now.length = 37) (h : chkL old = true) (hlen : ps.length = ts.length) (hbn : ∀ x ∈ now, -9223372036854775808 ≤ x ∧ x ≤ 9223372036854775807)
    (hps : Sl w w.heap.size 1 Ap ps.length (ps.map (Value.int .i64))) (hts : Sl w w.heap.size 1 At ts.length (ts.map (Value.int .i64))) (hbig : ps.length ≤ 140737488355328) (h0 : ¬ now.getD 0 0 = 0) :
    Calls Try.prog 9 #[.agg (ints old), .agg (ints now), .slice Ap ps.length cp, .slice At ts.length ct] w (NextR w (nextM old now ps ts)) := by
  obtain ⟨k0, s1, n2, n3, n4, np, hnowe, hnp⟩ := five hnow
  obtain ⟨q0, q1, q2, q3, q4, qp, holde, hqp⟩ := five hold
  have hn0 : now[0]? = some k0 := by rw [hnowe]; rfl
  have hn1 : now[1]? = some s1 := by rw [hnowe]; rfl
  have hn3 : now[3]? = some n3 := by rw [hnowe]; rfl
  have hq0 : old[0]? = some q0 := by rw [holde]; rfl
  have hq3 : old[3]? = some q3 := by rw [holde]; rfl
  have hg0 : now.getD 0 0 = k0 := by rw [hnowe]; rfl
  have hg1 : now.getD 1 0 = s1 := by rw [hnowe]; rfl
  have hkeep : keeps old now = (!(q0 == 0) && q3 == n3) := by rw [hnowe, holde]; rfl
  have hbs := hbn s1 (List.mem_of_getElem? hn1)
  have hm : nextM old now ps ts = (goP (blN now) (-1) ps ts (X1 old now)).bind fun X => if chkL X = true then some (X, goneL old X) else none := by
    unfold nextM
    rw [if_pos ⟨h, hlen⟩]
  rw [hg0] at h0
  have hlenI : ((ps.length : Int) != (ts.length : Int)) = false := by rw [hlen]; simp
  obtain ⟨BV, hBV⟩ : ∃ B, B = blocksN s1 := ⟨_, rfl⟩
  have hbl := fun w' => blocks_any s1 w' hbs.1 hbs.2
  rw [← hBV] at hbl
  have HBL := Lib.hid hbl
  have HM := Lib.hid hm
  have HO := Lib.hid hold
  have HN := Lib.hid hnow
  have HCK := Lib.hid (checkL hold)
  rw [h] at HCK
  have HOB := Lib.hid (chk_ptrs hold h)
  have HN0 := Lib.hid hn0
  have HN1 := Lib.hid hn1
  have HN3 := Lib.hid hn3
  have HQ0 := Lib.hid hq0
  have HQ3 := Lib.hid hq3
  have HK := Lib.hid hkeep
  have HPS := Lib.hid hps
  have HTS := Lib.hid hts
  have HLEN := Lib.hid hlen
  have HBN : Hid (blN now = BV) := by show _ = _; unfold blN; rw [hg0, hg1, if_neg h0, hBV]
  have HHD : Hid (now.take 5 = (hdN now).take 5) := by show _ = _; unfold hdN; rw [hg0, if_neg h0]
  have hk0 : ¬ k0 = 0 := h0
  have HBV := Lib.hid (hBV ▸ blocksN_bd s1 hbs.2 : 0 ≤ BV ∧ BV ≤ 72057594037927936)
  clear hbl hm hold hnow h hn0 hn1 hn3 hq0 hq3 hg0 hg1 hkeep hbs hps hts hlen hbn hnowe holde hnp hqp hBV
  go_enter Try.func9, Try.ntmps9
  go_wp2_with (first
    | ((with_reducible show wpList _ _ _ (⟨some 4, _, _, _, _, _⟩ :: _) _ _); refine wpList_box_ino rfl _ rfl HO.out rfl ?_; intro w1 hr1 hb1 hlt1)
    | ((with_reducible show wpList _ _ _ (⟨some 5, _, _, _, _, _⟩ :: _) _ _); refine wpList_box_ino rfl _ rfl HN.out rfl ?_; intro w2 hr2 hb2 hlt2)
    | ((with_reducible show wpList _ _ _ (⟨some 8, _, _, _, _, _⟩ :: _) _ _); refine wpList_alloc_ino rfl rfl ?_; intro w3 hr3 hb3 hlt3)
    | ((with_reducible show wpList _ _ _ (⟨some 11, _, _, _, _, _⟩ :: _) _ _); refine wpList_alloc_ino rfl rfl ?_; intro w4 hr4 hb4 hlt4; have HS := Lib.hid (St.start hr1 hb1 hlt1 hr2 hb2 hlt2 hr3 hb3 hlt3 hr4 hb4 hlt4); clear hr1 hb1 hlt1 hr2 hb2 hlt2 hr3 hb3 hlt3 hr4 hb4 hlt4)
    | ((with_reducible show wpList _ _ _ (⟨some 23, _, _, _, _, _⟩ :: _) _ _); refine wpList_load_ino rfl _ rfl HS.out.r4 HO.out rfl ?_)
    | (go_at_call 23; refine (HCK.out _).mono ?_; rintro e w5 ⟨rfl, hb5⟩; replace HS := Lib.hid (HS.out.below hb5 HS.out.o4); clear hb5)
    | ((with_reducible show wpList _ _ _ (⟨some 35, _, _, _, _, _⟩ :: _) _ _); refine wpList_load_num rfl _ _ rfl Try.underlying3 HS.out.r5 1 s1 HN1.out rfl ?_)
    | (go_at_call 24; refine (HBL.out _).mono ?_; rintro e w6 ⟨rfl, rfl⟩)
    | ((with_reducible show wpList _ _ _ (⟨some 38, _, _, _, _, _⟩ :: _) _ _); refine wpList_load_num rfl _ _ rfl Try.underlying3 HS.out.r5 0 _ HN0.out rfl ?_)
    | ((with_reducible show wpList _ _ _ (⟨some 40, _, _, _, _, _⟩ :: _) _ _); refine wpList_load_ino rfl _ rfl HS.out.r11 zIno_len rfl ?_)
    | ((with_reducible show wpList _ _ _ (⟨none, Op.store 24 (.tmp 5) _, _, _, _, _⟩ :: _) _ _); refine wpList_store_ino rfl _ _ rfl HS.out.r5 HN.out zIno_len rfl rfl ?_; intro w7 hr7 ho7; replace HS := Lib.hid (HS.out.on5 hr7 ho7); clear hr7 ho7)
    | ((with_reducible show wpList _ _ _ (⟨some 42, _, _, _, _, _⟩ :: _) _ _); refine wpList_load_ptrs rfl _ rfl HS.out.r11 zIno_len rfl ?_)
    | ((with_reducible show wpList _ _ _ (⟨none, Op.store 22 (.tmp 43) _, _, _, _, _⟩ :: _) _ _); refine wpList_store_ptrs rfl _ _ rfl HS.out.r5 (HN.out) (by simp [zIno]) rfl rfl ?_; intro w8 hr8 ho8; replace HS := Lib.hid (HS.out.on5 hr8 ho8); clear hr8 ho8))
  go_loopw [44] (fun j wr => ∃ k : Nat, k ≤ 32 ∧ j = .int .i64 (k : Int) ∧ ∃ xs : List Int, xs.length = 37 ∧ xs.take (5 + k) = (X1 old now).take (5 + k) ∧ (∀ i : Nat, k ≤ i → i < 32 → xs[5 + i]? = some 0) ∧ St w wr w.heap.size w1.heap.size w2.heap.size w3.heap.size old xs) (fun j _ => 32 - (intOf j).toNat)
  case atStart =>
    exact ⟨0, by omega, rfl, _, len5 HN.out, take5_start now old now HHD.out HN.out HN.out _, fun i _ hi => zero_tail now HN.out i hi, HS.out⟩
  case round =>
    obtain ⟨k, hk, rfl, xs, hl, ht, hz, hs⟩ := hrel
    have HL := Lib.hid hl
    have HT := Lib.hid ht
    have HZ := Lib.hid hz
    have HS := Lib.hid hs
    clear hl ht hz hs
    by_cases hlt : k < 32
    · have hltI : (k : Int) < 32 := by omega
      have HX3 : Hid (xs[3]? = some n3) := (at_of_take HT.out 3 (by omega)).trans (X1_3 old HN.out HN0.out hk0 HN3.out)
      by_cases hkn : (k : Int) < BV
      · by_cases hq : q0 = 0
        · have HV : Hid ((X1 old now)[5 + k]? = some 0) := by show _ = _; rw [X1_at old HN.out k hlt, ptr1, HK.out, hq, if_neg (fun h => by simp at h)]
          have hqb : (q0 != 0) = false := by simp [hq]
          clear hq
          go_wp2_with (first
              | ((with_reducible show wpList _ _ _ (⟨some 52, _, _, _, _, _⟩ :: _) _ _); refine wpList_load_num rfl _ _ rfl Try.underlying3 HS.out.r4 0 _ HQ0.out rfl ?_)
              | ((with_reducible show wpList _ _ _ (⟨some 57, _, _, _, _, _⟩ :: _) _ _); refine wpList_load_num rfl _ _ rfl Try.underlying3 HS.out.r4 3 _ HQ3.out rfl ?_)
              | ((with_reducible show wpList _ _ _ (⟨some 59, _, _, _, _, _⟩ :: _) _ _); refine wpList_load_num rfl _ _ rfl Try.underlying3 HS.out.r5 3 _ HX3.out rfl ?_))
          go_roundw
          case measure => simp [intOf]; omega
          case rel => exact ⟨k + 1, by omega, by simp, xs, HL.out, take_next HT.out (HZ.out k (Nat.le_refl _) hlt) HV.out, fun i h1 h2 => HZ.out i (by omega) h2, HS.out⟩
        · have hqb : (q0 != 0) = true := by simp [hq]
          by_cases h3 : q3 = n3
          · obtain ⟨p, hp⟩ : ∃ p, old[5 + k]? = some p := ⟨_, List.getElem?_eq_getElem (by rw [HO.out]; omega)⟩
            have HV : Hid ((X1 old now)[5 + k]? = some p) := by show _ = _; rw [X1_at old HN.out k hlt, ptr1, HK.out, HBN.out, if_pos ⟨hkn, by simp [hq, h3]⟩, List.getD_eq_getElem?_getD, hp]; rfl
            have h3b : (q3 == n3) = true := by simp [h3]
            have HP := Lib.hid hp
            clear hq h3 hp
            go_wp2_with (first
              | ((with_reducible show wpList _ _ _ (⟨some 52, _, _, _, _, _⟩ :: _) _ _); refine wpList_load_num rfl _ _ rfl Try.underlying3 HS.out.r4 0 _ HQ0.out rfl ?_)
              | ((with_reducible show wpList _ _ _ (⟨some 57, _, _, _, _, _⟩ :: _) _ _); refine wpList_load_num rfl _ _ rfl Try.underlying3 HS.out.r4 3 _ HQ3.out rfl ?_)
              | ((with_reducible show wpList _ _ _ (⟨some 59, _, _, _, _, _⟩ :: _) _ _); refine wpList_load_num rfl _ _ rfl Try.underlying3 HS.out.r5 3 _ HX3.out rfl ?_)
              | ((with_reducible show wpList _ _ _ (⟨some 66, _, _, _, _, _⟩ :: _) _ _); refine wpList_load_num rfl _ _ rfl Try.underlying3 HS.out.r4 (5 + k) _ HP.out rfl ?_)
              | ((with_reducible show wpList _ _ _ (⟨none, Op.store 3 (.tmp 68) _, _, _, _, _⟩ :: _) _ _); refine wpList_store_num rfl _ _ _ rfl Try.underlying3 (by kernel_rfl) HS.out.r5 HL.out _ _ (show (5 + k : Nat) < 37 by omega) rfl rfl ?_; intro w9 hr9 ho9 hl9))
            go_roundw
            case measure => simp [intOf]; omega
            case rel =>
              exact ⟨k + 1, by omega, by simp, _, hl9, take_set_next HT.out (Nat.lt_of_lt_of_eq (show (5 + k : Nat) < 37 by omega) HL.out.symm) HV.out, fun i h1 h2 => by rw [List.getElem?_set_ne (show ¬ (5 + k : Nat) = 5 + i by omega)]; exact HZ.out i (by omega) h2, HS.out.on5 hr9 ho9⟩
          · have HV : Hid ((X1 old now)[5 + k]? = some 0) := by show _ = _; rw [X1_at old HN.out k hlt, ptr1, HK.out, if_neg (fun h => by simp [h3] at h)]
            have h3b : (q3 == n3) = false := by simp [h3]
            clear hq h3
            go_wp2_with (first
                | ((with_reducible show wpList _ _ _ (⟨some 52, _, _, _, _, _⟩ :: _) _ _); refine wpList_load_num rfl _ _ rfl Try.underlying3 HS.out.r4 0 _ HQ0.out rfl ?_)
                | ((with_reducible show wpList _ _ _ (⟨some 57, _, _, _, _, _⟩ :: _) _ _); refine wpList_load_num rfl _ _ rfl Try.underlying3 HS.out.r4 3 _ HQ3.out rfl ?_)
                | ((with_reducible show wpList _ _ _ (⟨some 59, _, _, _, _, _⟩ :: _) _ _); refine wpList_load_num rfl _ _ rfl Try.underlying3 HS.out.r5 3 _ HX3.out rfl ?_))
            go_roundw
            case measure => simp [intOf]; omega
            case rel => exact ⟨k + 1, by omega, by simp, xs, HL.out, take_next HT.out (HZ.out k (Nat.le_refl _) hlt) HV.out, fun i h1 h2 => HZ.out i (by omega) h2, HS.out⟩
      · have HV : Hid ((X1 old now)[5 + k]? = some 0) := by show _ = _; rw [X1_at old HN.out k hlt, ptr1, HBN.out, if_neg (fun h => hkn h.1)]
        go_wp2_with (first
            | ((with_reducible show wpList _ _ _ (⟨some 52, _, _, _, _, _⟩ :: _) _ _); refine wpList_load_num rfl _ _ rfl Try.underlying3 HS.out.r4 0 _ HQ0.out rfl ?_)
            | ((with_reducible show wpList _ _ _ (⟨some 57, _, _, _, _, _⟩ :: _) _ _); refine wpList_load_num rfl _ _ rfl Try.underlying3 HS.out.r4 3 _ HQ3.out rfl ?_)
            | ((with_reducible show wpList _ _ _ (⟨some 59, _, _, _, _, _⟩ :: _) _ _); refine wpList_load_num rfl _ _ rfl Try.underlying3 HS.out.r5 3 _ HX3.out rfl ?_))
        go_roundw
        case measure => simp [intOf]; omega
        case rel => exact ⟨k + 1, by omega, by simp, xs, HL.out, take_next HT.out (HZ.out k (Nat.le_refl _) hlt) HV.out, fun i h1 h2 => HZ.out i (by omega) h2, HS.out⟩
    · have hge : (32 : Int) ≤ (k : Int) := by omega
      have hxs : xs = X1 old now := by
        have h := HT.out
        rw [List.take_of_length_le (by rw [HL.out]; omega), List.take_of_length_le (by rw [X1_len HN.out]; omega)] at h
        exact h
      subst hxs
      clear HT HZ
      have hY := X1_len (old := old) HN.out
      have HY := Lib.hid hY
      obtain ⟨Y, hYe⟩ : ∃ Y, Y = X1 old now := ⟨_, rfl⟩
      rw [← hYe] at HS HY HM
      clear hYe hY HL
      go_wp2_with fail
      go_loopw [72, 14] (fun j l wr => ∃ i : Nat, i ≤ ps.length ∧ j = .int .i64 (i : Int) ∧ ∃ (last : Int) (xs : List Int), l = .int .i64 last ∧ -1 ≤ last ∧ xs.length = 37 ∧ goP BV (-1) ps ts Y = goP BV last (ps.drop i) (ts.drop i) xs ∧ St w wr w.heap.size w1.heap.size w2.heap.size w3.heap.size old xs) (fun j _ _ => ps.length - (intOf j).toNat)
      case atStart => exact ⟨0, by omega, rfl, -1, Y, rfl, by omega, HY.out, by simp, HS.out⟩
      case round =>
        obtain ⟨i, hi, rfl, last, xs, rfl, hlast, hl, hgo, hs⟩ := hrel
        have HL := Lib.hid hl
        replace HS := Lib.hid hs
        clear hl hs
        by_cases hlt2 : i < ps.length
        · have hiI : (i : Int) < (ps.length : Int) := by omega
          have hltt : i < ts.length := by rw [← HLEN.out]; exact hlt2
          have hitI : (i : Int) < (ts.length : Int) := by omega
          obtain ⟨kz, hkz⟩ : ∃ z, ps[i]? = some z := ⟨_, List.getElem?_eq_getElem hlt2⟩
          obtain ⟨tz, htz⟩ : ∃ z, ts[i]? = some z := ⟨_, List.getElem?_eq_getElem hltt⟩
          obtain ⟨bp, op, rfl, hbp, hcp⟩ := (HPS.out.below HS.out.bel).at (by omega) (by decide)
          obtain ⟨bt, ot, rfl, hbt, hct⟩ := (HTS.out.below HS.out.bel).at (by omega) (by decide)
          have hc1 := hcp i (.int .i64 kz) (by simp [hkz])
          have hc2 := hct i (.int .i64 tz) (by simp [htz])
          rw [drop_cons hkz, drop_cons htz] at hgo
          have HGO := Lib.hid hgo
          clear hcp hct hbp hbt hkz htz hgo hltt
          by_cases c1 : kz ≤ last
          · have HF : Hid (nextM old now ps ts = none) := by show _ = _; rw [HM.out, HBN.out, HGO.out, goP, if_pos (.inl c1)]; rfl
            go_wp2_with (first
                | ((with_reducible show wpList _ _ _ (⟨some 89, _, _, _, _, _⟩ :: _) _ _); refine wpList_load_ino rfl _ rfl HS.out.r11 zIno_len rfl ?_)
                | ((with_reducible show wpList _ _ _ (⟨none, Op.store 24 (.tmp 8) _, _, _, _, _⟩ :: _) _ _); refine wpList_store_ino rfl _ _ rfl HS.out.r8 zIno_len zIno_len rfl rfl ?_; intro w9 hr9 ho9))
            (try simp only [Exit.inBlock, Exit.then])
            refine bodyPost_ret (results_ino3 rfl hr9 zIno_len _ rfl) rfl ?_
            exact nextR_none HF.out (HS.out.end8 ho9)
          · by_cases c2 : BV ≤ kz
            · have HF : Hid (nextM old now ps ts = none) := by show _ = _; rw [HM.out, HBN.out, HGO.out, goP, if_pos (.inr (.inl c2))]; rfl
              go_wp2_with (first
                  | ((with_reducible show wpList _ _ _ (⟨some 89, _, _, _, _, _⟩ :: _) _ _); refine wpList_load_ino rfl _ rfl HS.out.r11 zIno_len rfl ?_)
                  | ((with_reducible show wpList _ _ _ (⟨none, Op.store 24 (.tmp 8) _, _, _, _, _⟩ :: _) _ _); refine wpList_store_ino rfl _ _ rfl HS.out.r8 zIno_len zIno_len rfl rfl ?_; intro w9 hr9 ho9))
              (try simp only [Exit.inBlock, Exit.then])
              refine bodyPost_ret (results_ino3 rfl hr9 zIno_len _ rfl) rfl ?_
              exact nextR_none HF.out (HS.out.end8 ho9)
            · by_cases c3 : 32 ≤ kz
              · have HF : Hid (nextM old now ps ts = none) := by show _ = _; rw [HM.out, HBN.out, HGO.out, goP, if_pos (.inr (.inr c3))]; rfl
                go_wp2_with (first
                    | ((with_reducible show wpList _ _ _ (⟨some 89, _, _, _, _, _⟩ :: _) _ _); refine wpList_load_ino rfl _ rfl HS.out.r11 zIno_len rfl ?_)
                    | ((with_reducible show wpList _ _ _ (⟨none, Op.store 24 (.tmp 8) _, _, _, _, _⟩ :: _) _ _); refine wpList_store_ino rfl _ _ rfl HS.out.r8 zIno_len zIno_len rfl rfl ?_; intro w9 hr9 ho9))
                (try simp only [Exit.inBlock, Exit.then])
                refine bodyPost_ret (results_ino3 rfl hr9 zIno_len _ rfl) rfl ?_
                exact nextR_none HF.out (HS.out.end8 ho9)
              · obtain ⟨kn, rfl⟩ := Int.eq_ofNat_of_zero_le (show 0 ≤ kz by omega)
                have HG2 : Hid (goP BV (-1) ps ts Y = goP BV (kn : Int) (ps.drop (i + 1)) (ts.drop (i + 1)) (xs.set (5 + kn) tz)) := by
                  show _ = _
                  rw [HGO.out, goP, if_neg (by omega), Int.toNat_natCast]
                go_wp2_with ((with_reducible show wpList _ _ _ (⟨none, Op.store 3 (.tmp 96) _, _, _, _, _⟩ :: _) _ _); refine wpList_store_num rfl _ _ _ rfl Try.underlying3 (by kernel_rfl) HS.out.r5 HL.out _ _ (show (5 + kn : Nat) < 37 by omega) rfl rfl ?_; intro w9 hr9 ho9 hl9)
                go_roundw
                case measure => simp [intOf]; omega
                case rel => exact ⟨i + 1, by omega, by simp, (kn : Int), _, rfl, by omega, hl9, HG2.out, HS.out.on5 hr9 ho9⟩
        · have hie : i = ps.length := by omega
          have hge2 : (ps.length : Int) ≤ (i : Int) := by omega
          have HX : Hid (goP BV (-1) ps ts Y = some xs) := by
            show _ = _
            rw [hgo, hie, List.drop_of_length_le (Nat.le_refl _)]
            simp [goP]
          have HCX := Lib.hid (checkL HL.out)
          clear hgo hie
          cases hchk : chkL xs
          · have HF : Hid (nextM old now ps ts = none) := by show _ = _; rw [HM.out, HBN.out, HX.out]; simp [hchk]
            rw [hchk] at HCX
            clear hchk
            go_wp2_with (first
              | ((with_reducible show wpList _ _ _ (⟨some 99, _, _, _, _, _⟩ :: _) _ _); refine wpList_load_ino rfl _ rfl HS.out.r5 HL.out rfl ?_)
              | (go_at_call 23; refine (HCX.out _).mono ?_; rintro e w10 ⟨rfl, hb10⟩; replace HS := Lib.hid (HS.out.below hb10 HS.out.o4); clear hb10)
              | ((with_reducible show wpList _ _ _ (⟨some 102, _, _, _, _, _⟩ :: _) _ _); refine wpList_load_ino rfl _ rfl HS.out.r11 zIno_len rfl ?_)
              | ((with_reducible show wpList _ _ _ (⟨none, Op.store 24 (.tmp 8) _, _, _, _, _⟩ :: _) _ _); refine wpList_store_ino rfl _ _ rfl HS.out.r8 zIno_len zIno_len rfl rfl ?_; intro w9 hr9 ho9))
            (try simp only [Exit.inBlock, Exit.then])
            refine bodyPost_ret (results_ino3 rfl hr9 zIno_len _ rfl) rfl ?_
            exact nextR_none HF.out (HS.out.end8 ho9)
          · have HF : Hid (nextM old now ps ts = some (xs, goneL old xs)) := by show _ = _; rw [HM.out, HBN.out, HX.out]; simp [hchk]
            rw [hchk] at HCX
            have HPB := Lib.hid (chk_ptrs HL.out hchk)
            clear hchk
            go_wp2_with (first
              | ((with_reducible show wpList _ _ _ (⟨some 99, _, _, _, _, _⟩ :: _) _ _); refine wpList_load_ino rfl _ rfl HS.out.r5 HL.out rfl ?_)
              | (go_at_call 23; refine (HCX.out _).mono ?_; rintro e w10 ⟨rfl, hb10⟩; replace HS := Lib.hid (HS.out.below hb10 HS.out.o4); clear hb10)
              | ((with_reducible show wpList _ _ _ (⟨some 17, _, _, _, _, _⟩ :: _) _ _); refine wpList_alloc_stay rfl rfl ?_; intro w11 hy11 hb11 hlt11; have hbs : Hid (w3.heap.size < w10.heap.size) := HS.out.o4; replace HS := Lib.hid (HS.out.below hb11 HS.out.o4))
              | ((with_reducible show wpList _ _ _ (⟨some 104, _, _, _, _, _⟩ :: _) _ _); refine wpList_load_ptrs rfl _ rfl HS.out.r5 HL.out rfl ?_))
            obtain ⟨bs, hbse⟩ : ∃ bs, bs = w10.heap.size := ⟨_, rfl⟩
            rw [← hbse] at hy11 hlt11 hbs ⊢
            obtain ⟨P, hP⟩ : ∃ P, P = xs.drop 5 := ⟨_, rfl⟩
            have hPl : P.length = 32 := by rw [hP, List.length_drop, HL.out]
            rw [← hP] at HPB ⊢
            have HYY := Lib.hid hy11
            have HPE := Lib.hid hP
            have HPL := Lib.hid hPl
            have HLT := Lib.hid hlt11
            clear hP hy11 hb11 hlt11 hPl hbse
            go_loopw [105] (fun j wr => ∃ k : Nat, k ≤ 32 ∧ j = .int .i64 (k : Int) ∧ Stay wr bs (P.take k) ∧ bs < wr.heap.size ∧ St w wr w.heap.size w1.heap.size w2.heap.size w3.heap.size old xs) (fun j _ => 32 - (intOf j).toNat)
            case atStart => exact ⟨0, by omega, rfl, HYY.out, HLT.out, HS.out⟩
            case round =>
              obtain ⟨k3, hk3, rfl, hy, hbw, hs⟩ := hrel
              replace HYY := Lib.hid hy
              replace HS := Lib.hid hs
              replace HLT := Lib.hid hbw
              clear hy hs hbw
              by_cases hlt3 : k3 < 32
              · have hltI3 : (k3 : Int) < 32 := by omega
                obtain ⟨p, hp⟩ : ∃ p, P[k3]? = some p := ⟨_, List.getElem?_eq_getElem (by rw [HPL.out]; exact hlt3)⟩
                obtain ⟨hp0, hp1⟩ := HPB.out k3 p hp
                obtain ⟨pn, rfl⟩ := Int.eq_ofNat_of_zero_le hp0
                have HT1 : Hid (P.take (k3 + 1) = P.take k3 ++ [(pn : Int)]) := by show _ = _; rw [List.take_add_one, hp]; rfl
                have HPP := Lib.hid hp
                clear hp
                go_wp2_with (first
                  | ((with_reducible show wpList _ _ _ (⟨some 107, _, _, _, _, _⟩ :: _) _ _); refine wpList_index_ptrs rfl _ _ rfl k3 hlt3 _ HPP.out rfl rfl ?_)
                  | ((with_reducible show wpList _ _ _ (⟨none, Op.store 4 (.tmp 109) _, _, _, _, _⟩ :: _) _ _); refine wpList_store_stay rfl _ _ _ rfl (by kernel_rfl) HYY.out pn (by omega) rfl rfl ?_; intro w12 hy12 ho12))
                go_roundw
                case measure => simp [intOf]; omega
                case rel => exact ⟨k3 + 1, by omega, by simp, by rw [HT1.out]; exact hy12, Nat.lt_of_lt_of_le HLT.out ho12.size, HS.out.only ho12 hbs.out⟩
              · have hge3 : (32 : Int) ≤ (k3 : Int) := by omega
                have HYP : Hid (Stay wr bs P) := by
                  have := HYY.out
                  rwa [List.take_of_length_le (by rw [HPL.out]; omega)] at this
                clear HYY
                go_wp2_with ((with_reducible show wpList _ _ _ (⟨some 112, _, _, _, _, _⟩ :: _) _ _); refine wpList_load_ptrs rfl _ rfl HS.out.r4 HO.out rfl ?_)
                obtain ⟨i0, hi0, hz0, hz1, hz2⟩ := info_parts infoI
                obtain ⟨QO, hQO⟩ : ∃ QO, QO = old.drop 5 := ⟨_, rfl⟩
                have hQl : QO.length = 32 := by rw [hQO, List.length_drop, HO.out]
                have HQB : Hid (∀ (k : Nat) (p : Int), QO[k]? = some p → 0 ≤ p ∧ p ≤ 1023) := by rw [hQO]; exact HOB.out
                have HGN : Hid (∀ (k : Nat) (q : Int), QO[k]? = some q → ((QO.take (k + 1)).filter fun p => !(p == 0) && !(P.contains p)) = ((QO.take k).filter fun p => !(p == 0) && !(P.contains p)) ++ (if q = 0 then [] else if P.contains q then [] else [q])) := by
                  rw [hQO, HPE.out]
                  exact fun k q hq => gone_next hq
                have HGE : Hid ((QO.filter fun p => !(p == 0) && !(P.contains p)) = goneL old xs) := by rw [hQO, HPE.out]; rfl
                have HQL := Lib.hid hQl
                rw [← hQO]
                obtain ⟨B9, hB9⟩ : ∃ B9, B9 = wr.heap.size := ⟨_, rfl⟩
                have HB9 := Lib.hid hB9
                have hbsB : bs < B9 := by rw [hB9]; exact HLT.out
                clear hQO hQl hB9
                go_loopw [113, 20] (fun j b wr => ∃ k : Nat, k ≤ 32 ∧ j = .int .i64 (k : Int) ∧ ∃ G : List Int, G = ((QO.take k).filter fun p => !(p == 0) && !(P.contains p)) ∧ G.length ≤ k ∧ wr.ownsRow B9 3 1 b G.length (G.map (Value.int .i64)) ∧ B9 ≤ wr.heap.size ∧ Stay wr bs P ∧ St w wr w.heap.size w1.heap.size w2.heap.size w3.heap.size old xs) (fun j _ _ => 32 - (intOf j).toNat)
                case atStart => exact ⟨0, by omega, rfl, [], rfl, Nat.le_refl _, World.ownsRow_nil _ _ _ _, by rw [HB9.out]; exact Nat.le_refl _, HYP.out, HS.out⟩
                case round =>
                  obtain ⟨k4, hk4, rfl, G, hG, hGl, hown, hB9w, hy, hs⟩ := hrel
                  obtain ⟨A9, c9, rfl, _⟩ := (show Mine wr B9 3 1 _ G.length (G.map (Value.int .i64)) from .inr hown).form
                  have HOWN := Lib.hid hown
                  replace HYP := Lib.hid hy
                  replace HS := Lib.hid hs
                  have HG := Lib.hid hG
                  clear hown hy hs hG
                  by_cases hlt4 : k4 < 32
                  · have hltI4 : (k4 : Int) < 32 := by omega
                    obtain ⟨q, hq⟩ : ∃ q, QO[k4]? = some q := ⟨_, List.getElem?_eq_getElem (by rw [HQL.out]; exact hlt4)⟩
                    obtain ⟨hp0, hp1⟩ := HQB.out k4 q hq
                    have HGX := Lib.hid (HGN.out k4 q hq)
                    rw [← HG.out] at HGX
                    have HQQ := Lib.hid hq
                    clear hq
                    by_cases h0 : q = 0
                    · have h0b : (q != 0) = false := by simp [h0]
                      rw [if_pos h0, List.append_nil] at HGX
                      clear h0
                      go_wp2_with ((with_reducible show wpList _ _ _ (⟨some 115, _, _, _, _, _⟩ :: _) _ _); refine wpList_index_ptrs rfl _ _ rfl k4 hlt4 _ HQQ.out rfl rfl ?_)
                      go_roundw
                      case measure => simp [intOf]; omega
                      case rel => exact ⟨k4 + 1, by omega, by simp, G, HGX.out.symm, by omega, HOWN.out, hB9w, HYP.out, HS.out⟩
                    · obtain ⟨qn, rfl⟩ := Int.eq_ofNat_of_zero_le hp0
                      have h0b : ((qn : Int) != 0) = true := by simp; omega
                      rw [if_neg h0] at HGX
                      clear h0
                      cases hcon : P.contains (qn : Int)
                      · rw [hcon] at HGX
                        have HC := Lib.hid hcon
                        clear hcon
                        go_wp2_with (first
                          | ((with_reducible show wpList _ _ _ (⟨some 115, _, _, _, _, _⟩ :: _) _ _); refine wpList_index_ptrs rfl _ _ rfl k4 hlt4 _ HQQ.out rfl rfl ?_)
                          | ((with_reducible show wpList _ _ _ (⟨some 121, _, _, _, _, _⟩ :: _) _ _); refine wpList_load_stay rfl _ _ rfl Try.underlying4 HYP.out qn (by omega) rfl _ HC.out ?_)
                          | (at_builtin; refine wpList_append_mine rfl (.tmp 124) (.tmp 126) _ _ rfl B9 3 i0 (.int .i64 0) 1 8 hz1 hz2 rfl (by decide) _ _ _ rfl (Mine.alloc (.inr HOWN.out) _) _ 1 [.int .i64 (qn : Int)] rfl (Gives.elem Try.underlying25 hi0 hz0 hz1 _ rfl) (by simp only [maxLen]; omega) (by omega) (by simp; omega) ?_; intro A2 c2 w12 hm12 hg12 hb12 hat12 hown12))
                        go_roundw
                        case measure => simp [intOf]; omega
                        case rel =>
                          have hbb : Below B9 wr w12 := ((Below.refl _ wr).alloc hB9w _).trans hb12
                          have e : G.map (Value.int .i64) ++ [.int .i64 (qn : Int)] = (G ++ [(qn : Int)]).map (Value.int .i64) := by simp
                          rw [e] at hown12
                          exact ⟨k4 + 1, by omega, by simp, G ++ [(qn : Int)], HGX.out.symm, by simp; omega, by rw [List.length_append]; exact hown12 (.inl (by decide)), Nat.le_trans hB9w hbb.size, HYP.out.below hbb hbsB, HS.out.below hbb (Nat.lt_trans hbs.out hbsB)⟩
                      · rw [hcon] at HGX
                        have HC := Lib.hid hcon
                        have HGX2 : Hid (((QO.take (k4 + 1)).filter fun p => !(p == 0) && !(P.contains p)) = G) := by
                          have := HGX.out
                          rw [if_pos rfl, List.append_nil] at this
                          exact this
                        clear hcon
                        go_wp2_with (first
                          | ((with_reducible show wpList _ _ _ (⟨some 115, _, _, _, _, _⟩ :: _) _ _); refine wpList_index_ptrs rfl _ _ rfl k4 hlt4 _ HQQ.out rfl rfl ?_)
                          | ((with_reducible show wpList _ _ _ (⟨some 121, _, _, _, _, _⟩ :: _) _ _); refine wpList_load_stay rfl _ _ rfl Try.underlying4 HYP.out qn (by omega) rfl _ HC.out ?_))
                        go_roundw
                        case measure => simp [intOf]; omega
                        case rel => exact ⟨k4 + 1, by omega, by simp, G, HGX2.out.symm, by omega, HOWN.out, hB9w, HYP.out, HS.out⟩
                  · have hge4 : (32 : Int) ≤ (k4 : Int) := by omega
                    have hGe : Hid (G = goneL old xs) := by
                      show _ = _
                      rw [← HGE.out, HG.out, List.take_of_length_le (by rw [HQL.out]; omega)]
                    go_wp2_with (first
                      | ((with_reducible show wpList _ _ _ (⟨some 129, _, _, _, _, _⟩ :: _) _ _); refine wpList_load_ino rfl _ rfl HS.out.r5 HL.out rfl ?_)
                      | ((with_reducible show wpList _ _ _ (⟨none, Op.store 24 (.tmp 8) _, _, _, _, _⟩ :: _) _ _); refine wpList_store_ino rfl _ _ rfl HS.out.r8 zIno_len HL.out rfl rfl ?_; intro w13 hr13 ho13))
                    (try simp only [Exit.inBlock, Exit.then])
                    refine bodyPost_ret (results_ino3 rfl hr13 HL.out _ rfl) rfl ?_
                    have ho := own_only HOWN.out ho13 (show w2.heap.size < B9 by have := HS.out.o3; have := hbs.out; omega)
                    have hsl := ho
                    rw [hGe.out] at hsl
                    exact nextR_some HF.out (by rw [← hGe.out]) hsl (show w.heap.size ≤ B9 by have := HS.out.o1; have := HS.out.o2; have := HS.out.o3; have := hbs.out; omega) (HS.out.end8 ho13)
end Go.Proofs.Ytgfhepfikphliaa.Al
