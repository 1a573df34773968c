/-
  The document's Next, of an inode of many blocks.
-/
import Derived.Test.YtgfhepfikphliaaAlloc4
namespace Go.Proofs.Ytgfhepfikphliaa.Al
open Go.RowKit Wd In
set_option linter.unusedVariables false

set_option maxRecDepth 100000 in
set_option maxHeartbeats 1600000 in
theorem rnext_many (old now ps ts : List Int) (Ap At : Option Addr) (cp ct : Nat) (w : World) (hold : old.length = 37) (hnow : now.length = 37) (h : chkL old = true) (hlen : ps.length = ts.length) (hbn : ∀ x ∈ now, -9223372036854775808 ≤ x ∧ x ≤ 9223372036854775807)
    (hps : Sl w w.heap.size 1 Ap ps.length (ps.map (Value.int .i64))) (hts : Sl w w.heap.size 1 At ts.length (ts.map (Value.int .i64))) (hbig : ps.length ≤ 140737488355328) (h0 : ¬ now.getD 0 0 = 0) (h64 : 3968 < now.getD 1 0) :
    Calls Try.prog 11 #[.agg (ints old), .agg (ints now), .slice Ap ps.length cp, .slice At ts.length ct] w (NextR w (nextM old now ps ts)) := by
  obtain ⟨k0, s1, n2, n3, n4, np, hnowe, hnp⟩ := five hnow
  obtain ⟨q0, q1, q2, q3, q4, qp, holde, hqp⟩ := five hold
  have hn0 : now[0]? = some k0 := by rw [hnowe]; rfl
  have hn1 : now[1]? = some s1 := by rw [hnowe]; rfl
  have hn3 : now[3]? = some n3 := by rw [hnowe]; rfl
  have hq0 : old[0]? = some q0 := by rw [holde]; rfl
  have hq3 : old[3]? = some q3 := by rw [holde]; rfl
  have hg0 : now.getD 0 0 = k0 := by rw [hnowe]; rfl
  have hg1 : now.getD 1 0 = s1 := by rw [hnowe]; rfl
  have hkeep : keeps old now = (!(q0 == 0) && q3 == n3) := by rw [hnowe, holde]; rfl
  have hbs := hbn s1 (List.mem_of_getElem? hn1)
  have hm0 : nextM old now ps ts = (goP (blN now) (-1) ps ts (X1 old now)).bind fun X => if chkL X = true then some (X, goneL old X) else none := by
    unfold nextM
    rw [if_pos ⟨h, hlen⟩]
  rw [hg0] at h0
  have hlenI : ((ps.length : Int) != (ts.length : Int)) = false := by rw [hlen]; simp
  obtain ⟨ms, hms⟩ : ∃ m, m = min s1 8192 := ⟨_, rfl⟩
  obtain ⟨BV, hBV⟩ : ∃ B, B = blocksN ms := ⟨_, rfl⟩
  have hbl := fun w' => rblocks_any ms w' (by omega) (by omega)
  rw [← hBV] at hbl
  have hmin : (if (8192 : Int) < s1 then (8192 : Int) else s1) = ms := by rw [hms]; split <;> omega
  have hBV0 : 0 ≤ BV ∧ BV ≤ 64 := by rw [hBV, hms]; unfold blocksN; split <;> omega
  have hcap : ∀ k : Int, k < 32 → (blocksN s1 ≤ k ↔ BV ≤ k) := by
    intro k hk
    rw [hBV, hms]
    unfold blocksN
    split <;> split <;> omega
  have hcapN : ∀ k : Int, k < 32 → (blN now ≤ k ↔ BV ≤ k) := by intro k hk; unfold blN; rw [hg0, if_neg h0, hg1]; exact hcap k hk
  have HHD : Hid (now.take 5 = (hdN now).take 5) := by show _ = _; unfold hdN; rw [hg0, if_neg h0]
  rw [hg1] at h64
  have hsz : 32 ≤ BV := by
    rw [hBV, hms]
    unfold blocksN
    split <;> omega
  have hk0 : ¬ k0 = 0 := h0
  have hk0b : (k0 == 0) = false := by simp [h0]
  have hm : nextM old now ps ts = (goP BV (-1) ps ts (X1 old now)).bind fun X => if chkL X = true then some (X, goneL old X) else none := by
    rw [hm0, goP_cap hcapN]
  have hX1 : ∀ k : Nat, k < 32 → (X1 old now)[5 + k]? = some (if (k : Int) < BV ∧ keeps old now = true then old.getD (5 + k) 0 else 0) := by
    intro k hk
    rw [X1_at old hnow k hk]
    unfold ptr1
    have := hcapN (k : Int) (by omega)
    by_cases h1 : (k : Int) < BV ∧ keeps old now = true
    · rw [if_pos h1, if_pos ⟨by omega, h1.2⟩]
    · rw [if_neg h1, if_neg (fun h2 => h1 ⟨by omega, h2.2⟩)]
  have HBL := Lib.hid hbl
  have HM := Lib.hid hm
  have HX1 := Lib.hid hX1
  have HO := Lib.hid hold
  have HN := Lib.hid hnow
  have HCK := Lib.hid (rcheckL hold)
  rw [h] at HCK
  have HOB := Lib.hid (chk_ptrs hold h)
  have HN0 := Lib.hid hn0
  have HN1 := Lib.hid hn1
  have HN3 := Lib.hid hn3
  have HQ0 := Lib.hid hq0
  have HQ3 := Lib.hid hq3
  have HK := Lib.hid hkeep
  have HPS := Lib.hid hps
  have HTS := Lib.hid hts
  have HLEN := Lib.hid hlen
  have HBS := Lib.hid hbs
  clear hbl hm hm0 hold hnow h hn0 hn1 hn3 hq0 hq3 hg0 hg1 hkeep hbs hps hts hlen hbn hnowe holde hnp hqp hBV hms hX1 hcap hcapN
  go_enter Try.func11, Try.ntmps11
  go_wp2_with (first
    | ((with_reducible show wpList _ _ _ (⟨some 4, _, _, _, _, _⟩ :: _) _ _); refine wpList_box_ino rfl _ rfl HO.out rfl ?_; intro w1 hr1 hb1 hlt1)
    | ((with_reducible show wpList _ _ _ (⟨some 5, _, _, _, _, _⟩ :: _) _ _); refine wpList_box_ino rfl _ rfl HN.out rfl ?_; intro w2 hr2 hb2 hlt2)
    | ((with_reducible show wpList _ _ _ (⟨some 8, _, _, _, _, _⟩ :: _) _ _); refine wpList_alloc_ino rfl rfl ?_; intro w3 hr3 hb3 hlt3; have HS0 := Lib.hid (SR0.start hr1 hb1 hlt1 hr2 hb2 hlt2 hr3 hb3 hlt3); clear hr1 hb1 hlt1 hr2 hb2 hlt2 hr3 hb3 hlt3)
    | ((with_reducible show wpList _ _ _ (⟨some 20, _, _, _, _, _⟩ :: _) _ _); refine wpList_load_ino rfl _ rfl HS0.out.r4 HO.out rfl ?_)
    | (go_at_call 13; refine (HCK.out _).mono ?_; rintro e w5 ⟨rfl, hb5⟩; replace HS0 := Lib.hid (HS0.out.below hb5); clear hb5)
    | ((with_reducible show wpList _ _ _ (⟨some 31, _, _, _, _, _⟩ :: _) _ _); refine wpList_load_ino rfl _ rfl HS0.out.r5 HN.out rfl ?_)
    | ((with_reducible show wpList _ _ _ (⟨some 11, _, _, _, _, _⟩ :: _) _ _); refine wpList_alloc_ino rfl rfl ?_; intro w6 hr6 hb6 hlt6; have HS := Lib.hid (SR.start HS0.out hr6 hb6 hlt6); clear hr6 hb6 hlt6)
    | ((with_reducible show wpList _ _ _ (⟨none, Op.store 24 (.tmp 11) _, _, _, _, _⟩ :: _) _ _); refine wpList_store_ino rfl _ _ rfl HS.out.r11 (by first | exact zIno_len | exact len5z HN.out) (by first | exact HN.out | exact zIno_len) rfl rfl ?_; intro w7 hr7 ho7; replace HS := Lib.hid (HS.out.on11 hr7 ho7); clear hr7 ho7)
    | ((with_reducible show wpList _ _ _ (⟨some 32, _, _, _, _, _⟩ :: _) _ _); refine wpList_build_ptrs rfl rfl ?_)
    | ((with_reducible show wpList _ _ _ (⟨none, Op.store 22 (.tmp 33) _, _, _, _, _⟩ :: _) _ _); refine wpList_store_ptrs rfl _ _ rfl HS.out.r11 HN.out z32_len rfl rfl ?_; intro w8 hr8 ho8; replace HS := Lib.hid (HS.out.on11 hr8 ho8); clear hr8 ho8)
    | ((with_reducible show wpList _ _ _ (⟨some 35, _, _, _, _, _⟩ :: _) _ _); refine wpList_load_num rfl _ _ rfl Try.underlying3 HS.out.r5 1 s1 HN1.out rfl ?_)
    | (go_at_call 25; refine (HBL.out _).mono ?_; rintro e w10 ⟨rfl, rfl⟩)
    | ((with_reducible show wpList _ _ _ (⟨some 39, _, _, _, _, _⟩ :: _) _ _); refine wpList_load_num rfl _ _ rfl Try.underlying3 HS.out.r5 0 _ HN0.out rfl ?_)
    | ((with_reducible show wpList _ _ _ (⟨some 41, _, _, _, _, _⟩ :: _) _ _); refine wpList_build_ino rfl rfl ?_))
  go_loopw [13] (fun j wr => ∃ k : Nat, k ≤ 32 ∧ j = .int .i64 (k : Int) ∧ ∃ xs : List Int, xs.length = 37 ∧ xs.take (5 + k) = (X1 old now).take (5 + k) ∧ (∀ i : Nat, k ≤ i → i < 32 → xs[5 + i]? = some 0) ∧ SR w wr w.heap.size w1.heap.size w2.heap.size w5.heap.size old now xs) (fun j _ => 32 - (intOf j).toNat)
  case atStart => exact ⟨0, by omega, rfl, _, len5z HN.out, take5_z now old now HHD.out HN.out HN.out _, fun i _ hi => zero_tailz now HN.out i hi, HS.out⟩
  case round =>
    obtain ⟨k, hk, rfl, xs, hl, ht, hz, hs⟩ := hrel
    have HL := Lib.hid hl
    have HT := Lib.hid ht
    have HZ := Lib.hid hz
    replace HS := Lib.hid hs
    clear hl ht hz hs
    by_cases hlt : k < 32
    · have hk32 : k < 32 := by omega
      have hltI : (k : Int) < 32 := by omega
      have hkn : (k : Int) < BV := by omega
      by_cases hq : q0 = 0
      · have HV : Hid ((X1 old now)[5 + k]? = some 0) := by show _ = _; rw [HX1.out k hk32, HK.out, hq, if_neg (fun h => by simp at h)]
        have hqb : (q0 != 0) = false := by simp [hq]
        clear hq
        go_wp2_with (first
            | ((with_reducible show wpList _ _ _ (⟨some 52, _, _, _, _, _⟩ :: _) _ _); refine wpList_load_num rfl _ _ rfl Try.underlying3 HS.out.r4 0 _ HQ0.out rfl ?_)
            | ((with_reducible show wpList _ _ _ (⟨some 56, _, _, _, _, _⟩ :: _) _ _); refine wpList_load_num rfl _ _ rfl Try.underlying3 HS.out.r4 3 _ HQ3.out rfl ?_)
            | ((with_reducible show wpList _ _ _ (⟨some 58, _, _, _, _, _⟩ :: _) _ _); refine wpList_load_num rfl _ _ rfl Try.underlying3 HS.out.r5 3 _ HN3.out rfl ?_))
        go_roundw
        case measure => simp [intOf]; omega
        case rel => exact ⟨k + 1, by omega, by simp, xs, HL.out, take_next HT.out (HZ.out k (Nat.le_refl _) hk32) HV.out, fun i h1 h2 => HZ.out i (by omega) h2, HS.out⟩
      · have hqb : (q0 != 0) = true := by simp [hq]
        by_cases h3 : q3 = n3
        · obtain ⟨p, hp⟩ : ∃ p, old[5 + k]? = some p := ⟨_, List.getElem?_eq_getElem (by rw [HO.out]; omega)⟩
          have HV : Hid ((X1 old now)[5 + k]? = some p) := by show _ = _; rw [HX1.out k hk32, HK.out, if_pos ⟨hkn, by simp [hq, h3]⟩, List.getD_eq_getElem?_getD, hp]; rfl
          have h3b : (q3 == n3) = true := by simp [h3]
          have HP := Lib.hid hp
          clear hq h3 hp
          go_wp2_with (first
            | ((with_reducible show wpList _ _ _ (⟨some 52, _, _, _, _, _⟩ :: _) _ _); refine wpList_load_num rfl _ _ rfl Try.underlying3 HS.out.r4 0 _ HQ0.out rfl ?_)
            | ((with_reducible show wpList _ _ _ (⟨some 56, _, _, _, _, _⟩ :: _) _ _); refine wpList_load_num rfl _ _ rfl Try.underlying3 HS.out.r4 3 _ HQ3.out rfl ?_)
            | ((with_reducible show wpList _ _ _ (⟨some 58, _, _, _, _, _⟩ :: _) _ _); refine wpList_load_num rfl _ _ rfl Try.underlying3 HS.out.r5 3 _ HN3.out rfl ?_)
            | ((with_reducible show wpList _ _ _ (⟨some 65, _, _, _, _, _⟩ :: _) _ _); refine wpList_load_num rfl _ _ rfl Try.underlying3 HS.out.r4 (5 + k) _ HP.out rfl ?_)
            | ((with_reducible show wpList _ _ _ (⟨none, Op.store 3 (.tmp 67) _, _, _, _, _⟩ :: _) _ _); refine wpList_store_num rfl _ _ _ rfl Try.underlying3 (by kernel_rfl) HS.out.r11 HL.out _ _ (show (5 + k : Nat) < 37 by omega) rfl rfl ?_; intro w9 hr9 ho9 hl9))
          go_roundw
          case measure => simp [intOf]; omega
          case rel =>
            exact ⟨k + 1, by omega, by simp, _, hl9, take_set_next HT.out (Nat.lt_of_lt_of_eq (show (5 + k : Nat) < 37 by omega) HL.out.symm) HV.out, fun i h1 h2 => by rw [List.getElem?_set_ne (show ¬ (5 + k : Nat) = 5 + i by omega)]; exact HZ.out i (by omega) h2, HS.out.on11 hr9 ho9⟩
        · have HV : Hid ((X1 old now)[5 + k]? = some 0) := by show _ = _; rw [HX1.out k hk32, HK.out, if_neg (fun h => by simp [h3] at h)]
          have h3b : (q3 == n3) = false := by simp [h3]
          clear hq h3
          go_wp2_with (first
              | ((with_reducible show wpList _ _ _ (⟨some 52, _, _, _, _, _⟩ :: _) _ _); refine wpList_load_num rfl _ _ rfl Try.underlying3 HS.out.r4 0 _ HQ0.out rfl ?_)
              | ((with_reducible show wpList _ _ _ (⟨some 56, _, _, _, _, _⟩ :: _) _ _); refine wpList_load_num rfl _ _ rfl Try.underlying3 HS.out.r4 3 _ HQ3.out rfl ?_)
              | ((with_reducible show wpList _ _ _ (⟨some 58, _, _, _, _, _⟩ :: _) _ _); refine wpList_load_num rfl _ _ rfl Try.underlying3 HS.out.r5 3 _ HN3.out rfl ?_))
          go_roundw
          case measure => simp [intOf]; omega
          case rel => exact ⟨k + 1, by omega, by simp, xs, HL.out, take_next HT.out (HZ.out k (Nat.le_refl _) hk32) HV.out, fun i h1 h2 => HZ.out i (by omega) h2, HS.out⟩
    · have hge : (32 : Int) ≤ (k : Int) := by omega
      have hxs : xs = X1 old now := x1_ext (by omega) HL.out (X1_len HN.out) HT.out HZ.out (fun i h1 h2 => by rw [HX1.out i h2, if_neg (fun h3 => by have := h3.1; omega)])
      subst hxs
      clear HT HZ
      have HY : Hid ((X1 old now).length = 37) := X1_len HN.out
      obtain ⟨Y, hYe⟩ : ∃ Y, Y = X1 old now := ⟨_, rfl⟩
      rw [← hYe] at HS HY HM
      clear hYe HL HX1
      go_wp2_with fail
      go_loopw [14] (fun j wr => ∃ i : Nat, i ≤ ps.length ∧ j = .int .i64 (i : Int) ∧ ∃ (last : Int) (xs : List Int), (i = 0 → last = -1) ∧ (∀ i' : Nat, i = i' + 1 → ps[i']? = some last) ∧ -1 ≤ last ∧ xs.length = 37 ∧ goP BV (-1) ps ts Y = goP BV last (ps.drop i) (ts.drop i) xs ∧ SR w wr w.heap.size w1.heap.size w2.heap.size w5.heap.size old now xs) (fun j _ => ps.length - (intOf j).toNat)
      case atStart => exact ⟨0, by omega, rfl, -1, Y, fun _ => rfl, fun i' h => by omega, by omega, HY.out, by simp, HS.out⟩
      case round =>
        obtain ⟨i, hi, rfl, last, xs, hla, hlb, hlast, hl, hgo, hs⟩ := hrel
        have HL := Lib.hid hl
        replace HS := Lib.hid hs
        clear hl hs
        by_cases hlt2 : i < ps.length
        · have hiI : (i : Int) < (ps.length : Int) := by omega
          have hltt : i < ts.length := by rw [← HLEN.out]; exact hlt2
          have hitI : (i : Int) < (ts.length : Int) := by omega
          obtain ⟨kz, hkz⟩ : ∃ z, ps[i]? = some z := ⟨_, List.getElem?_eq_getElem hlt2⟩
          obtain ⟨tz, htz⟩ : ∃ z, ts[i]? = some z := ⟨_, List.getElem?_eq_getElem hltt⟩
          obtain ⟨bp, op, rfl, hbp, hcp⟩ := (HPS.out.below HS.out.bel).at (by omega) (by decide)
          obtain ⟨bt, ot, rfl, hbt, hct⟩ := (HTS.out.below HS.out.bel).at (by omega) (by decide)
          replace hbp : bp < wr.heap.size := Nat.lt_of_lt_of_le hbp HS.out.bel.size
          replace hbt : bt < wr.heap.size := Nat.lt_of_lt_of_le hbt HS.out.bel.size
          have hc1 := hcp i (.int .i64 kz) (by simp [hkz])
          have hc2 := hct i (.int .i64 tz) (by simp [htz])
          have hds := drop_cons hkz
          rw [hds, drop_cons htz] at hgo
          have HGO := Lib.hid hgo
          have HKZ := Lib.hid hkz
          have HC1 := Lib.hid hc1
          have HC2 := Lib.hid hc2
          clear hct hkz htz hgo hltt hds hc1 hc2
          by_cases c0 : kz < 0
          · have HF : Hid (nextM old now ps ts = none) := by show _ = _; rw [HM.out, HGO.out, goP, if_pos (.inl (by omega))]; rfl
            have DC0 : kz < 0 := c0
            clear hcp hla hlb
            go_wp2_with fail
            refine wp_region_rely (by kernel_rfl) (fun d u w' => match d with
              | 74 => u = (.slice (some ⟨bp, op, none⟩) ps.length cp : Value)
              | 75 => u = (.int .i64 (i : Int) : Value)
              | 76 => u = (.pointer (some ⟨bp, op + i, none⟩) : Value)
              | 77 => u = (.int .i64 kz : Value)
              | 78 => u = (.bool true : Value)
              | 79 => u = (.bool true : Value)
              | 80 => u = (Go.undef : Value)
              | 81 => u = (Go.undef : Value)
              | 82 => u = (Go.undef : Value)
              | 83 => u = (Go.undef : Value)
              | 84 => u = (Go.undef : Value)
              | 85 => u = (Go.undef : Value)
              | 86 => u = (.bool true : Value)
              | 87 => u = (.bool true : Value)
              | 88 => u = (Go.undef : Value)
              | 89 => u = (Go.undef : Value)
              | 90 => u = (Go.undef : Value)
              | 91 => u = (Go.undef : Value)
              | 92 => u = (Go.undef : Value)
              | 93 => u = (.bool true : Value)
              | 94 => u = (.bool true : Value)
              | 95 => u = (Go.undef : Value)
              | 96 => u = (Go.undef : Value)
              | 97 => u = (Go.undef : Value)
              | 98 => u = (Go.undef : Value)
              | 99 => u = (Go.undef : Value)
              | 100 => u = (Go.undef : Value)
              | 101 => u = (Go.undef : Value)
              | 102 => u = (Go.undef : Value)
              | 103 => u = (Go.undef : Value)
              | 104 => u = (Go.undef : Value)
              | 105 => u = (Go.undef : Value)
              | 106 => u = (Go.undef : Value)
              | 107 => u = (Go.undef : Value)
              | 108 => u = (Go.undef : Value)
              | 109 => u = (.bool true : Value)
              | _ => True) 156 rfl (by decide +kernel) [109] ?_ ?_
            · refine AllSteps.cons (Step.move _ rfl rfl fun a w' hl => hl.old 2 rfl) ?_
              refine AllSteps.cons (Step.move _ rfl rfl fun a w' hl => hl.old 14 rfl) ?_
              refine AllSteps.cons (Step.plain rfl fun a w' K hl hK => ?_) ?_
              · obtain ⟨_, _, _, h74⟩ := hl.dep 0 74 rfl rfl
                replace h74 : a.eval (.tmp 74) = _ := h74
                obtain ⟨_, _, _, h75⟩ := hl.dep 1 75 rfl rfl
                replace h75 : a.eval (.tmp 75) = _ := h75
                refine wp_val (.pointer (some ⟨bp, op + i, none⟩)) ?_ (hK _ _ (Kept.refl _) rfl)
                clear hl hK
                generalize a.eval = ρ at *
                simp [execOp, go_sem, h74, h75, hiI]
                try (intro h; omega)
              refine AllSteps.cons (Step.plain rfl fun a w' K hl hK => ?_) ?_
              · obtain ⟨_, _, _, h76⟩ := hl.dep 2 76 rfl rfl
                replace h76 : a.eval (.tmp 76) = _ := h76
                have hcell : w'.cell? ⟨bp, op + i, none⟩ = some (.int .i64 kz) := (Below.cell hl.kept hbp).trans HC1.out
                refine wp_val (.int .i64 kz) ?_ (hK _ _ (Kept.refl _) rfl)
                clear hl hK
                generalize a.eval = ρ at *
                simp [execOp, go_sem, h76, hcell]
              refine AllSteps.cons (Step.plain rfl fun a w' K hl hK => ?_) ?_
              · obtain ⟨_, _, _, h77⟩ := hl.dep 3 77 rfl rfl
                replace h77 : a.eval (.tmp 77) = _ := h77
                have hconst : ∀ x, a.eval (.const x) = x := fun _ => rfl
                refine wp_val (.bool true) ?_ (hK _ _ (Kept.refl _) rfl)
                clear hl hK
                generalize a.eval = ρ at *
                simp [execOp, go_sem, h77, hconst, DC0]
              refine AllSteps.cons (Step.move _ rfl rfl fun a w' hl => let ⟨_, _, _, h⟩ := hl.dep 4 78 rfl rfl; h) ?_
              refine AllSteps.cons (Step.no 5 false 79 rfl rfl rfl (fun u w h => by rw [show u = (.bool true : Value) from h]; intro h'; cases h') (fun _ => rfl)) ?_
              refine AllSteps.cons (Step.no 5 false 79 rfl rfl rfl (fun u w h => by rw [show u = (.bool true : Value) from h]; intro h'; cases h') (fun _ => rfl)) ?_
              refine AllSteps.cons (Step.no 5 false 79 rfl rfl rfl (fun u w h => by rw [show u = (.bool true : Value) from h]; intro h'; cases h') (fun _ => rfl)) ?_
              refine AllSteps.cons (Step.no 5 false 79 rfl rfl rfl (fun u w h => by rw [show u = (.bool true : Value) from h]; intro h'; cases h') (fun _ => rfl)) ?_
              refine AllSteps.cons (Step.no 5 false 79 rfl rfl rfl (fun u w h => by rw [show u = (.bool true : Value) from h]; intro h'; cases h') (fun _ => rfl)) ?_
              refine AllSteps.cons (Step.no 5 false 79 rfl rfl rfl (fun u w h => by rw [show u = (.bool true : Value) from h]; intro h'; cases h') (fun _ => rfl)) ?_
              refine AllSteps.cons (Step.plain rfl fun a w' K hl hK => ?_) ?_
              · obtain ⟨_, _, _, h79⟩ := hl.dep 5 79 rfl rfl
                replace h79 : a.eval (.tmp 79) = _ := h79
                obtain ⟨_, _, _, h85⟩ := hl.dep 11 85 rfl rfl
                replace h85 : a.eval (.tmp 85) = _ := h85
                exact wp_pick rfl true h79 (hK _ _ (Kept.refl _) rfl)
              refine AllSteps.cons (Step.move _ rfl rfl fun a w' hl => let ⟨_, _, _, h⟩ := hl.dep 12 86 rfl rfl; h) ?_
              refine AllSteps.cons (Step.no 13 false 87 rfl rfl rfl (fun u w h => by rw [show u = (.bool true : Value) from h]; intro h'; cases h') (fun _ => rfl)) ?_
              refine AllSteps.cons (Step.no 13 false 87 rfl rfl rfl (fun u w h => by rw [show u = (.bool true : Value) from h]; intro h'; cases h') (fun _ => rfl)) ?_
              refine AllSteps.cons (Step.no 13 false 87 rfl rfl rfl (fun u w h => by rw [show u = (.bool true : Value) from h]; intro h'; cases h') (fun _ => rfl)) ?_
              refine AllSteps.cons (Step.no 13 false 87 rfl rfl rfl (fun u w h => by rw [show u = (.bool true : Value) from h]; intro h'; cases h') (fun _ => rfl)) ?_
              refine AllSteps.cons (Step.no 13 false 87 rfl rfl rfl (fun u w h => by rw [show u = (.bool true : Value) from h]; intro h'; cases h') (fun _ => rfl)) ?_
              refine AllSteps.cons (Step.plain rfl fun a w' K hl hK => ?_) ?_
              · obtain ⟨_, _, _, h87⟩ := hl.dep 13 87 rfl rfl
                replace h87 : a.eval (.tmp 87) = _ := h87
                obtain ⟨_, _, _, h92⟩ := hl.dep 18 92 rfl rfl
                replace h92 : a.eval (.tmp 92) = _ := h92
                exact wp_pick rfl true h87 (hK _ _ (Kept.refl _) rfl)
              refine AllSteps.cons (Step.move _ rfl rfl fun a w' hl => let ⟨_, _, _, h⟩ := hl.dep 19 93 rfl rfl; h) ?_
              refine AllSteps.cons (Step.no 20 false 94 rfl rfl rfl (fun u w h => by rw [show u = (.bool true : Value) from h]; intro h'; cases h') (fun _ => rfl)) ?_
              refine AllSteps.cons (Step.no 20 false 94 rfl rfl rfl (fun u w h => by rw [show u = (.bool true : Value) from h]; intro h'; cases h') (fun _ => rfl)) ?_
              refine AllSteps.cons (Step.no 20 false 94 rfl rfl rfl (fun u w h => by rw [show u = (.bool true : Value) from h]; intro h'; cases h') (fun _ => rfl)) ?_
              refine AllSteps.cons (Step.no 23 true 97 rfl rfl rfl (fun u w h => by rw [show u = (Go.undef : Value) from h]; intro h'; cases h') (fun _ => rfl)) ?_
              refine AllSteps.cons (Step.no 23 true 97 rfl rfl rfl (fun u w h => by rw [show u = (Go.undef : Value) from h]; intro h'; cases h') (fun _ => rfl)) ?_
              refine AllSteps.cons (Step.no 23 true 97 rfl rfl rfl (fun u w h => by rw [show u = (Go.undef : Value) from h]; intro h'; cases h') (fun _ => rfl)) ?_
              refine AllSteps.cons (Step.no 23 true 97 rfl rfl rfl (fun u w h => by rw [show u = (Go.undef : Value) from h]; intro h'; cases h') (fun _ => rfl)) ?_
              refine AllSteps.cons (Step.no 23 true 97 rfl rfl rfl (fun u w h => by rw [show u = (Go.undef : Value) from h]; intro h'; cases h') (fun _ => rfl)) ?_
              refine AllSteps.cons (Step.no 23 true 97 rfl rfl rfl (fun u w h => by rw [show u = (Go.undef : Value) from h]; intro h'; cases h') (fun _ => rfl)) ?_
              refine AllSteps.cons (Step.no 23 true 97 rfl rfl rfl (fun u w h => by rw [show u = (Go.undef : Value) from h]; intro h'; cases h') (fun _ => rfl)) ?_
              refine AllSteps.cons (Step.no 23 true 97 rfl rfl rfl (fun u w h => by rw [show u = (Go.undef : Value) from h]; intro h'; cases h') (fun _ => rfl)) ?_
              refine AllSteps.cons (Step.no 23 true 97 rfl rfl rfl (fun u w h => by rw [show u = (Go.undef : Value) from h]; intro h'; cases h') (fun _ => rfl)) ?_
              refine AllSteps.cons (Step.no 23 true 97 rfl rfl rfl (fun u w h => by rw [show u = (Go.undef : Value) from h]; intro h'; cases h') (fun _ => rfl)) ?_
              refine AllSteps.cons (Step.no 20 false 94 rfl rfl rfl (fun u w h => by rw [show u = (.bool true : Value) from h]; intro h'; cases h') (fun _ => rfl)) ?_
              refine AllSteps.cons (Step.plain rfl fun a w' K hl hK => ?_) ?_
              · obtain ⟨_, _, _, h94⟩ := hl.dep 20 94 rfl rfl
                replace h94 : a.eval (.tmp 94) = _ := h94
                obtain ⟨_, _, _, h108⟩ := hl.dep 34 108 rfl rfl
                replace h108 : a.eval (.tmp 108) = _ := h108
                exact wp_pick rfl true h94 (hK _ _ (Kept.refl _) rfl)
              exact AllSteps.nil
            · intro f w19 hk19 hf
              obtain ⟨_, _, h109⟩ := hf 109 rfl rfl
              replace h109 : f 109 = .bool true := h109
              simp only [Exit.then, fill, dsts, List.filterMap_cons, List.filterMap_nil, List.foldl_cons, List.foldl_nil, Act.put, h109, List.setIfInBounds_toArray, List.set_cons_succ, List.set_cons_zero]
              clear hf h109
              have hc1 := (Below.cell hk19 (p := ⟨bp, op + i, none⟩) hbp).trans HC1.out
              have hc2 := (Below.cell hk19 (p := ⟨bt, ot + i, none⟩) hbt).trans HC2.out
              have hbp19 := Nat.lt_of_lt_of_le hbp hk19.size
              have hbt19 := Nat.lt_of_lt_of_le hbt hk19.size
              replace HS := Lib.hid (HS.out.below hk19 HS.out.o4)
              clear hk19
              go_wp2_with (first
                  | ((with_reducible show wpList _ _ _ (⟨some 110, _, _, _, _, _⟩ :: _) _ _); refine wpList_build_ino rfl rfl ?_)
                  | ((with_reducible show wpList _ _ _ (⟨none, Op.store 24 (.tmp 8) _, _, _, _, _⟩ :: _) _ _); refine wpList_store_ino rfl _ _ rfl HS.out.r8 zIno_len zIno_len rfl rfl ?_; intro w9 hr9 ho9))
              (try simp only [Exit.inBlock, Exit.then])
              refine bodyPost_ret (results_ino3 rfl hr9 zIno_len _ rfl) rfl ?_
              exact nextR_none HF.out (HS.out.end8 ho9)
          · by_cases c2 : BV ≤ kz
            · have HF : Hid (nextM old now ps ts = none) := by show _ = _; rw [HM.out, HGO.out, goP, if_pos (.inr (.inl c2))]; rfl
              have DC0 : ¬ kz < 0 := c0
              have DC2 : BV ≤ kz := c2
              clear hcp hla hlb
              go_wp2_with fail
              refine wp_region_rely (by kernel_rfl) (fun d u w' => match d with
                | 74 => u = (.slice (some ⟨bp, op, none⟩) ps.length cp : Value)
                | 75 => u = (.int .i64 (i : Int) : Value)
                | 76 => u = (.pointer (some ⟨bp, op + i, none⟩) : Value)
                | 77 => u = (.int .i64 kz : Value)
                | 78 => u = (.bool false : Value)
                | 79 => u = (.bool false : Value)
                | 80 => u = (.slice (some ⟨bp, op, none⟩) ps.length cp : Value)
                | 81 => u = (.int .i64 (i : Int) : Value)
                | 82 => u = (.pointer (some ⟨bp, op + i, none⟩) : Value)
                | 83 => u = (.int .i64 kz : Value)
                | 84 => u = (.int .i64 BV : Value)
                | 85 => u = (.bool true : Value)
                | 86 => u = (.bool true : Value)
                | 87 => u = (.bool true : Value)
                | 88 => u = (Go.undef : Value)
                | 89 => u = (Go.undef : Value)
                | 90 => u = (Go.undef : Value)
                | 91 => u = (Go.undef : Value)
                | 92 => u = (Go.undef : Value)
                | 93 => u = (.bool true : Value)
                | 94 => u = (.bool true : Value)
                | 95 => u = (Go.undef : Value)
                | 96 => u = (Go.undef : Value)
                | 97 => u = (Go.undef : Value)
                | 98 => u = (Go.undef : Value)
                | 99 => u = (Go.undef : Value)
                | 100 => u = (Go.undef : Value)
                | 101 => u = (Go.undef : Value)
                | 102 => u = (Go.undef : Value)
                | 103 => u = (Go.undef : Value)
                | 104 => u = (Go.undef : Value)
                | 105 => u = (Go.undef : Value)
                | 106 => u = (Go.undef : Value)
                | 107 => u = (Go.undef : Value)
                | 108 => u = (Go.undef : Value)
                | 109 => u = (.bool true : Value)
                | _ => True) 156 rfl (by decide +kernel) [109] ?_ ?_
              · refine AllSteps.cons (Step.move _ rfl rfl fun a w' hl => hl.old 2 rfl) ?_
                refine AllSteps.cons (Step.move _ rfl rfl fun a w' hl => hl.old 14 rfl) ?_
                refine AllSteps.cons (Step.plain rfl fun a w' K hl hK => ?_) ?_
                · obtain ⟨_, _, _, h74⟩ := hl.dep 0 74 rfl rfl
                  replace h74 : a.eval (.tmp 74) = _ := h74
                  obtain ⟨_, _, _, h75⟩ := hl.dep 1 75 rfl rfl
                  replace h75 : a.eval (.tmp 75) = _ := h75
                  refine wp_val (.pointer (some ⟨bp, op + i, none⟩)) ?_ (hK _ _ (Kept.refl _) rfl)
                  clear hl hK
                  generalize a.eval = ρ at *
                  simp [execOp, go_sem, h74, h75, hiI]
                  try (intro h; omega)
                refine AllSteps.cons (Step.plain rfl fun a w' K hl hK => ?_) ?_
                · obtain ⟨_, _, _, h76⟩ := hl.dep 2 76 rfl rfl
                  replace h76 : a.eval (.tmp 76) = _ := h76
                  have hcell : w'.cell? ⟨bp, op + i, none⟩ = some (.int .i64 kz) := (Below.cell hl.kept hbp).trans HC1.out
                  refine wp_val (.int .i64 kz) ?_ (hK _ _ (Kept.refl _) rfl)
                  clear hl hK
                  generalize a.eval = ρ at *
                  simp [execOp, go_sem, h76, hcell]
                refine AllSteps.cons (Step.plain rfl fun a w' K hl hK => ?_) ?_
                · obtain ⟨_, _, _, h77⟩ := hl.dep 3 77 rfl rfl
                  replace h77 : a.eval (.tmp 77) = _ := h77
                  have hconst : ∀ x, a.eval (.const x) = x := fun _ => rfl
                  refine wp_val (.bool false) ?_ (hK _ _ (Kept.refl _) rfl)
                  clear hl hK
                  generalize a.eval = ρ at *
                  simp [execOp, go_sem, h77, hconst, DC0]
                refine AllSteps.cons (Step.move _ rfl rfl fun a w' hl => let ⟨_, _, _, h⟩ := hl.dep 4 78 rfl rfl; h) ?_
                refine AllSteps.cons (Step.yes 5 false 79 rfl rfl rfl (fun _ _ h => h) fun a w' K hl hK => ?_) ?_
                · have h2 : a.eval (.tmp 2) = (.slice (some ⟨bp, op, none⟩) ps.length cp : Value) := hl.old 2 rfl
                  exact wp_val (a.eval (.tmp 2)) rfl (hK _ _ (Kept.refl _) h2)
                refine AllSteps.cons (Step.yes 5 false 79 rfl rfl rfl (fun _ _ h => h) fun a w' K hl hK => ?_) ?_
                · have h14 : a.eval (.tmp 14) = (.int .i64 (i : Int) : Value) := hl.old 14 rfl
                  exact wp_val (a.eval (.tmp 14)) rfl (hK _ _ (Kept.refl _) h14)
                refine AllSteps.cons (Step.yes 5 false 79 rfl rfl rfl (fun _ _ h => h) fun a w' K hl hK => ?_) ?_
                · obtain ⟨_, _, _, h80⟩ := hl.dep 6 80 rfl rfl
                  replace h80 : a.eval (.tmp 80) = _ := h80
                  obtain ⟨_, _, _, h81⟩ := hl.dep 7 81 rfl rfl
                  replace h81 : a.eval (.tmp 81) = _ := h81
                  refine wp_val (.pointer (some ⟨bp, op + i, none⟩)) ?_ (hK _ _ (Kept.refl _) rfl)
                  clear hl hK
                  generalize a.eval = ρ at *
                  simp [execOp, go_sem, h80, h81, hiI]
                  try (intro h; omega)
                refine AllSteps.cons (Step.yes 5 false 79 rfl rfl rfl (fun _ _ h => h) fun a w' K hl hK => ?_) ?_
                · obtain ⟨_, _, _, h82⟩ := hl.dep 8 82 rfl rfl
                  replace h82 : a.eval (.tmp 82) = _ := h82
                  have hcell : w'.cell? ⟨bp, op + i, none⟩ = some (.int .i64 kz) := (Below.cell hl.kept hbp).trans HC1.out
                  refine wp_val (.int .i64 kz) ?_ (hK _ _ (Kept.refl _) rfl)
                  clear hl hK
                  generalize a.eval = ρ at *
                  simp [execOp, go_sem, h82, hcell]
                refine AllSteps.cons (Step.yes 5 false 79 rfl rfl rfl (fun _ _ h => h) fun a w' K hl hK => ?_) ?_
                · have h12 : a.eval (.tmp 12) = (.int .i64 BV : Value) := hl.old 12 rfl
                  exact wp_val (a.eval (.tmp 12)) rfl (hK _ _ (Kept.refl _) h12)
                refine AllSteps.cons (Step.yes 5 false 79 rfl rfl rfl (fun _ _ h => h) fun a w' K hl hK => ?_) ?_
                · obtain ⟨_, _, _, h83⟩ := hl.dep 9 83 rfl rfl
                  replace h83 : a.eval (.tmp 83) = _ := h83
                  obtain ⟨_, _, _, h84⟩ := hl.dep 10 84 rfl rfl
                  replace h84 : a.eval (.tmp 84) = _ := h84
                  refine wp_val (.bool true) ?_ (hK _ _ (Kept.refl _) rfl)
                  clear hl hK
                  generalize a.eval = ρ at *
                  simp [execOp, go_sem, h83, h84, DC2]
                refine AllSteps.cons (Step.plain rfl fun a w' K hl hK => ?_) ?_
                · obtain ⟨_, _, _, h79⟩ := hl.dep 5 79 rfl rfl
                  replace h79 : a.eval (.tmp 79) = _ := h79
                  obtain ⟨_, _, _, h85⟩ := hl.dep 11 85 rfl rfl
                  replace h85 : a.eval (.tmp 85) = _ := h85
                  exact wp_pick rfl false h79 (hK _ _ (Kept.refl _) h85)
                refine AllSteps.cons (Step.move _ rfl rfl fun a w' hl => let ⟨_, _, _, h⟩ := hl.dep 12 86 rfl rfl; h) ?_
                refine AllSteps.cons (Step.no 13 false 87 rfl rfl rfl (fun u w h => by rw [show u = (.bool true : Value) from h]; intro h'; cases h') (fun _ => rfl)) ?_
                refine AllSteps.cons (Step.no 13 false 87 rfl rfl rfl (fun u w h => by rw [show u = (.bool true : Value) from h]; intro h'; cases h') (fun _ => rfl)) ?_
                refine AllSteps.cons (Step.no 13 false 87 rfl rfl rfl (fun u w h => by rw [show u = (.bool true : Value) from h]; intro h'; cases h') (fun _ => rfl)) ?_
                refine AllSteps.cons (Step.no 13 false 87 rfl rfl rfl (fun u w h => by rw [show u = (.bool true : Value) from h]; intro h'; cases h') (fun _ => rfl)) ?_
                refine AllSteps.cons (Step.no 13 false 87 rfl rfl rfl (fun u w h => by rw [show u = (.bool true : Value) from h]; intro h'; cases h') (fun _ => rfl)) ?_
                refine AllSteps.cons (Step.plain rfl fun a w' K hl hK => ?_) ?_
                · obtain ⟨_, _, _, h87⟩ := hl.dep 13 87 rfl rfl
                  replace h87 : a.eval (.tmp 87) = _ := h87
                  obtain ⟨_, _, _, h92⟩ := hl.dep 18 92 rfl rfl
                  replace h92 : a.eval (.tmp 92) = _ := h92
                  exact wp_pick rfl true h87 (hK _ _ (Kept.refl _) rfl)
                refine AllSteps.cons (Step.move _ rfl rfl fun a w' hl => let ⟨_, _, _, h⟩ := hl.dep 19 93 rfl rfl; h) ?_
                refine AllSteps.cons (Step.no 20 false 94 rfl rfl rfl (fun u w h => by rw [show u = (.bool true : Value) from h]; intro h'; cases h') (fun _ => rfl)) ?_
                refine AllSteps.cons (Step.no 20 false 94 rfl rfl rfl (fun u w h => by rw [show u = (.bool true : Value) from h]; intro h'; cases h') (fun _ => rfl)) ?_
                refine AllSteps.cons (Step.no 20 false 94 rfl rfl rfl (fun u w h => by rw [show u = (.bool true : Value) from h]; intro h'; cases h') (fun _ => rfl)) ?_
                refine AllSteps.cons (Step.no 23 true 97 rfl rfl rfl (fun u w h => by rw [show u = (Go.undef : Value) from h]; intro h'; cases h') (fun _ => rfl)) ?_
                refine AllSteps.cons (Step.no 23 true 97 rfl rfl rfl (fun u w h => by rw [show u = (Go.undef : Value) from h]; intro h'; cases h') (fun _ => rfl)) ?_
                refine AllSteps.cons (Step.no 23 true 97 rfl rfl rfl (fun u w h => by rw [show u = (Go.undef : Value) from h]; intro h'; cases h') (fun _ => rfl)) ?_
                refine AllSteps.cons (Step.no 23 true 97 rfl rfl rfl (fun u w h => by rw [show u = (Go.undef : Value) from h]; intro h'; cases h') (fun _ => rfl)) ?_
                refine AllSteps.cons (Step.no 23 true 97 rfl rfl rfl (fun u w h => by rw [show u = (Go.undef : Value) from h]; intro h'; cases h') (fun _ => rfl)) ?_
                refine AllSteps.cons (Step.no 23 true 97 rfl rfl rfl (fun u w h => by rw [show u = (Go.undef : Value) from h]; intro h'; cases h') (fun _ => rfl)) ?_
                refine AllSteps.cons (Step.no 23 true 97 rfl rfl rfl (fun u w h => by rw [show u = (Go.undef : Value) from h]; intro h'; cases h') (fun _ => rfl)) ?_
                refine AllSteps.cons (Step.no 23 true 97 rfl rfl rfl (fun u w h => by rw [show u = (Go.undef : Value) from h]; intro h'; cases h') (fun _ => rfl)) ?_
                refine AllSteps.cons (Step.no 23 true 97 rfl rfl rfl (fun u w h => by rw [show u = (Go.undef : Value) from h]; intro h'; cases h') (fun _ => rfl)) ?_
                refine AllSteps.cons (Step.no 23 true 97 rfl rfl rfl (fun u w h => by rw [show u = (Go.undef : Value) from h]; intro h'; cases h') (fun _ => rfl)) ?_
                refine AllSteps.cons (Step.no 20 false 94 rfl rfl rfl (fun u w h => by rw [show u = (.bool true : Value) from h]; intro h'; cases h') (fun _ => rfl)) ?_
                refine AllSteps.cons (Step.plain rfl fun a w' K hl hK => ?_) ?_
                · obtain ⟨_, _, _, h94⟩ := hl.dep 20 94 rfl rfl
                  replace h94 : a.eval (.tmp 94) = _ := h94
                  obtain ⟨_, _, _, h108⟩ := hl.dep 34 108 rfl rfl
                  replace h108 : a.eval (.tmp 108) = _ := h108
                  exact wp_pick rfl true h94 (hK _ _ (Kept.refl _) rfl)
                exact AllSteps.nil
              · intro f w19 hk19 hf
                obtain ⟨_, _, h109⟩ := hf 109 rfl rfl
                replace h109 : f 109 = .bool true := h109
                simp only [Exit.then, fill, dsts, List.filterMap_cons, List.filterMap_nil, List.foldl_cons, List.foldl_nil, Act.put, h109, List.setIfInBounds_toArray, List.set_cons_succ, List.set_cons_zero]
                clear hf h109
                have hc1 := (Below.cell hk19 (p := ⟨bp, op + i, none⟩) hbp).trans HC1.out
                have hc2 := (Below.cell hk19 (p := ⟨bt, ot + i, none⟩) hbt).trans HC2.out
                have hbp19 := Nat.lt_of_lt_of_le hbp hk19.size
                have hbt19 := Nat.lt_of_lt_of_le hbt hk19.size
                replace HS := Lib.hid (HS.out.below hk19 HS.out.o4)
                clear hk19
                go_wp2_with (first
                    | ((with_reducible show wpList _ _ _ (⟨some 110, _, _, _, _, _⟩ :: _) _ _); refine wpList_build_ino rfl rfl ?_)
                    | ((with_reducible show wpList _ _ _ (⟨none, Op.store 24 (.tmp 8) _, _, _, _, _⟩ :: _) _ _); refine wpList_store_ino rfl _ _ rfl HS.out.r8 zIno_len zIno_len rfl rfl ?_; intro w9 hr9 ho9))
                (try simp only [Exit.inBlock, Exit.then])
                refine bodyPost_ret (results_ino3 rfl hr9 zIno_len _ rfl) rfl ?_
                exact nextR_none HF.out (HS.out.end8 ho9)
            · by_cases c3 : 32 ≤ kz
              · have HF : Hid (nextM old now ps ts = none) := by show _ = _; rw [HM.out, HGO.out, goP, if_pos (.inr (.inr c3))]; rfl
                have DC0 : ¬ kz < 0 := c0
                have DC2 : ¬ BV ≤ kz := c2
                have DC3 : 32 ≤ kz := c3
                clear hcp hla hlb
                go_wp2_with fail
                refine wp_region_rely (by kernel_rfl) (fun d u w' => match d with
                  | 74 => u = (.slice (some ⟨bp, op, none⟩) ps.length cp : Value)
                  | 75 => u = (.int .i64 (i : Int) : Value)
                  | 76 => u = (.pointer (some ⟨bp, op + i, none⟩) : Value)
                  | 77 => u = (.int .i64 kz : Value)
                  | 78 => u = (.bool false : Value)
                  | 79 => u = (.bool false : Value)
                  | 80 => u = (.slice (some ⟨bp, op, none⟩) ps.length cp : Value)
                  | 81 => u = (.int .i64 (i : Int) : Value)
                  | 82 => u = (.pointer (some ⟨bp, op + i, none⟩) : Value)
                  | 83 => u = (.int .i64 kz : Value)
                  | 84 => u = (.int .i64 BV : Value)
                  | 85 => u = (.bool false : Value)
                  | 86 => u = (.bool false : Value)
                  | 87 => u = (.bool false : Value)
                  | 88 => u = (.slice (some ⟨bp, op, none⟩) ps.length cp : Value)
                  | 89 => u = (.int .i64 (i : Int) : Value)
                  | 90 => u = (.pointer (some ⟨bp, op + i, none⟩) : Value)
                  | 91 => u = (.int .i64 kz : Value)
                  | 92 => u = (.bool true : Value)
                  | 93 => u = (.bool true : Value)
                  | 94 => u = (.bool true : Value)
                  | 95 => u = (Go.undef : Value)
                  | 96 => u = (Go.undef : Value)
                  | 97 => u = (Go.undef : Value)
                  | 98 => u = (Go.undef : Value)
                  | 99 => u = (Go.undef : Value)
                  | 100 => u = (Go.undef : Value)
                  | 101 => u = (Go.undef : Value)
                  | 102 => u = (Go.undef : Value)
                  | 103 => u = (Go.undef : Value)
                  | 104 => u = (Go.undef : Value)
                  | 105 => u = (Go.undef : Value)
                  | 106 => u = (Go.undef : Value)
                  | 107 => u = (Go.undef : Value)
                  | 108 => u = (Go.undef : Value)
                  | 109 => u = (.bool true : Value)
                  | _ => True) 156 rfl (by decide +kernel) [109] ?_ ?_
                · refine AllSteps.cons (Step.move _ rfl rfl fun a w' hl => hl.old 2 rfl) ?_
                  refine AllSteps.cons (Step.move _ rfl rfl fun a w' hl => hl.old 14 rfl) ?_
                  refine AllSteps.cons (Step.plain rfl fun a w' K hl hK => ?_) ?_
                  · obtain ⟨_, _, _, h74⟩ := hl.dep 0 74 rfl rfl
                    replace h74 : a.eval (.tmp 74) = _ := h74
                    obtain ⟨_, _, _, h75⟩ := hl.dep 1 75 rfl rfl
                    replace h75 : a.eval (.tmp 75) = _ := h75
                    refine wp_val (.pointer (some ⟨bp, op + i, none⟩)) ?_ (hK _ _ (Kept.refl _) rfl)
                    clear hl hK
                    generalize a.eval = ρ at *
                    simp [execOp, go_sem, h74, h75, hiI]
                    try (intro h; omega)
                  refine AllSteps.cons (Step.plain rfl fun a w' K hl hK => ?_) ?_
                  · obtain ⟨_, _, _, h76⟩ := hl.dep 2 76 rfl rfl
                    replace h76 : a.eval (.tmp 76) = _ := h76
                    have hcell : w'.cell? ⟨bp, op + i, none⟩ = some (.int .i64 kz) := (Below.cell hl.kept hbp).trans HC1.out
                    refine wp_val (.int .i64 kz) ?_ (hK _ _ (Kept.refl _) rfl)
                    clear hl hK
                    generalize a.eval = ρ at *
                    simp [execOp, go_sem, h76, hcell]
                  refine AllSteps.cons (Step.plain rfl fun a w' K hl hK => ?_) ?_
                  · obtain ⟨_, _, _, h77⟩ := hl.dep 3 77 rfl rfl
                    replace h77 : a.eval (.tmp 77) = _ := h77
                    have hconst : ∀ x, a.eval (.const x) = x := fun _ => rfl
                    refine wp_val (.bool false) ?_ (hK _ _ (Kept.refl _) rfl)
                    clear hl hK
                    generalize a.eval = ρ at *
                    simp [execOp, go_sem, h77, hconst, DC0]
                  refine AllSteps.cons (Step.move _ rfl rfl fun a w' hl => let ⟨_, _, _, h⟩ := hl.dep 4 78 rfl rfl; h) ?_
                  refine AllSteps.cons (Step.yes 5 false 79 rfl rfl rfl (fun _ _ h => h) fun a w' K hl hK => ?_) ?_
                  · have h2 : a.eval (.tmp 2) = (.slice (some ⟨bp, op, none⟩) ps.length cp : Value) := hl.old 2 rfl
                    exact wp_val (a.eval (.tmp 2)) rfl (hK _ _ (Kept.refl _) h2)
                  refine AllSteps.cons (Step.yes 5 false 79 rfl rfl rfl (fun _ _ h => h) fun a w' K hl hK => ?_) ?_
                  · have h14 : a.eval (.tmp 14) = (.int .i64 (i : Int) : Value) := hl.old 14 rfl
                    exact wp_val (a.eval (.tmp 14)) rfl (hK _ _ (Kept.refl _) h14)
                  refine AllSteps.cons (Step.yes 5 false 79 rfl rfl rfl (fun _ _ h => h) fun a w' K hl hK => ?_) ?_
                  · obtain ⟨_, _, _, h80⟩ := hl.dep 6 80 rfl rfl
                    replace h80 : a.eval (.tmp 80) = _ := h80
                    obtain ⟨_, _, _, h81⟩ := hl.dep 7 81 rfl rfl
                    replace h81 : a.eval (.tmp 81) = _ := h81
                    refine wp_val (.pointer (some ⟨bp, op + i, none⟩)) ?_ (hK _ _ (Kept.refl _) rfl)
                    clear hl hK
                    generalize a.eval = ρ at *
                    simp [execOp, go_sem, h80, h81, hiI]
                    try (intro h; omega)
                  refine AllSteps.cons (Step.yes 5 false 79 rfl rfl rfl (fun _ _ h => h) fun a w' K hl hK => ?_) ?_
                  · obtain ⟨_, _, _, h82⟩ := hl.dep 8 82 rfl rfl
                    replace h82 : a.eval (.tmp 82) = _ := h82
                    have hcell : w'.cell? ⟨bp, op + i, none⟩ = some (.int .i64 kz) := (Below.cell hl.kept hbp).trans HC1.out
                    refine wp_val (.int .i64 kz) ?_ (hK _ _ (Kept.refl _) rfl)
                    clear hl hK
                    generalize a.eval = ρ at *
                    simp [execOp, go_sem, h82, hcell]
                  refine AllSteps.cons (Step.yes 5 false 79 rfl rfl rfl (fun _ _ h => h) fun a w' K hl hK => ?_) ?_
                  · have h12 : a.eval (.tmp 12) = (.int .i64 BV : Value) := hl.old 12 rfl
                    exact wp_val (a.eval (.tmp 12)) rfl (hK _ _ (Kept.refl _) h12)
                  refine AllSteps.cons (Step.yes 5 false 79 rfl rfl rfl (fun _ _ h => h) fun a w' K hl hK => ?_) ?_
                  · obtain ⟨_, _, _, h83⟩ := hl.dep 9 83 rfl rfl
                    replace h83 : a.eval (.tmp 83) = _ := h83
                    obtain ⟨_, _, _, h84⟩ := hl.dep 10 84 rfl rfl
                    replace h84 : a.eval (.tmp 84) = _ := h84
                    refine wp_val (.bool false) ?_ (hK _ _ (Kept.refl _) rfl)
                    clear hl hK
                    generalize a.eval = ρ at *
                    simp [execOp, go_sem, h83, h84, DC2]
                  refine AllSteps.cons (Step.plain rfl fun a w' K hl hK => ?_) ?_
                  · obtain ⟨_, _, _, h79⟩ := hl.dep 5 79 rfl rfl
                    replace h79 : a.eval (.tmp 79) = _ := h79
                    obtain ⟨_, _, _, h85⟩ := hl.dep 11 85 rfl rfl
                    replace h85 : a.eval (.tmp 85) = _ := h85
                    exact wp_pick rfl false h79 (hK _ _ (Kept.refl _) h85)
                  refine AllSteps.cons (Step.move _ rfl rfl fun a w' hl => let ⟨_, _, _, h⟩ := hl.dep 12 86 rfl rfl; h) ?_
                  refine AllSteps.cons (Step.yes 13 false 87 rfl rfl rfl (fun _ _ h => h) fun a w' K hl hK => ?_) ?_
                  · have h2 : a.eval (.tmp 2) = (.slice (some ⟨bp, op, none⟩) ps.length cp : Value) := hl.old 2 rfl
                    exact wp_val (a.eval (.tmp 2)) rfl (hK _ _ (Kept.refl _) h2)
                  refine AllSteps.cons (Step.yes 13 false 87 rfl rfl rfl (fun _ _ h => h) fun a w' K hl hK => ?_) ?_
                  · have h14 : a.eval (.tmp 14) = (.int .i64 (i : Int) : Value) := hl.old 14 rfl
                    exact wp_val (a.eval (.tmp 14)) rfl (hK _ _ (Kept.refl _) h14)
                  refine AllSteps.cons (Step.yes 13 false 87 rfl rfl rfl (fun _ _ h => h) fun a w' K hl hK => ?_) ?_
                  · obtain ⟨_, _, _, h88⟩ := hl.dep 14 88 rfl rfl
                    replace h88 : a.eval (.tmp 88) = _ := h88
                    obtain ⟨_, _, _, h89⟩ := hl.dep 15 89 rfl rfl
                    replace h89 : a.eval (.tmp 89) = _ := h89
                    refine wp_val (.pointer (some ⟨bp, op + i, none⟩)) ?_ (hK _ _ (Kept.refl _) rfl)
                    clear hl hK
                    generalize a.eval = ρ at *
                    simp [execOp, go_sem, h88, h89, hiI]
                    try (intro h; omega)
                  refine AllSteps.cons (Step.yes 13 false 87 rfl rfl rfl (fun _ _ h => h) fun a w' K hl hK => ?_) ?_
                  · obtain ⟨_, _, _, h90⟩ := hl.dep 16 90 rfl rfl
                    replace h90 : a.eval (.tmp 90) = _ := h90
                    have hcell : w'.cell? ⟨bp, op + i, none⟩ = some (.int .i64 kz) := (Below.cell hl.kept hbp).trans HC1.out
                    refine wp_val (.int .i64 kz) ?_ (hK _ _ (Kept.refl _) rfl)
                    clear hl hK
                    generalize a.eval = ρ at *
                    simp [execOp, go_sem, h90, hcell]
                  refine AllSteps.cons (Step.yes 13 false 87 rfl rfl rfl (fun _ _ h => h) fun a w' K hl hK => ?_) ?_
                  · obtain ⟨_, _, _, h91⟩ := hl.dep 17 91 rfl rfl
                    replace h91 : a.eval (.tmp 91) = _ := h91
                    have hconst : ∀ x, a.eval (.const x) = x := fun _ => rfl
                    refine wp_val (.bool true) ?_ (hK _ _ (Kept.refl _) rfl)
                    clear hl hK
                    generalize a.eval = ρ at *
                    simp [execOp, go_sem, h91, hconst, DC3]
                  refine AllSteps.cons (Step.plain rfl fun a w' K hl hK => ?_) ?_
                  · obtain ⟨_, _, _, h87⟩ := hl.dep 13 87 rfl rfl
                    replace h87 : a.eval (.tmp 87) = _ := h87
                    obtain ⟨_, _, _, h92⟩ := hl.dep 18 92 rfl rfl
                    replace h92 : a.eval (.tmp 92) = _ := h92
                    exact wp_pick rfl false h87 (hK _ _ (Kept.refl _) h92)
                  refine AllSteps.cons (Step.move _ rfl rfl fun a w' hl => let ⟨_, _, _, h⟩ := hl.dep 19 93 rfl rfl; h) ?_
                  refine AllSteps.cons (Step.no 20 false 94 rfl rfl rfl (fun u w h => by rw [show u = (.bool true : Value) from h]; intro h'; cases h') (fun _ => rfl)) ?_
                  refine AllSteps.cons (Step.no 20 false 94 rfl rfl rfl (fun u w h => by rw [show u = (.bool true : Value) from h]; intro h'; cases h') (fun _ => rfl)) ?_
                  refine AllSteps.cons (Step.no 20 false 94 rfl rfl rfl (fun u w h => by rw [show u = (.bool true : Value) from h]; intro h'; cases h') (fun _ => rfl)) ?_
                  refine AllSteps.cons (Step.no 23 true 97 rfl rfl rfl (fun u w h => by rw [show u = (Go.undef : Value) from h]; intro h'; cases h') (fun _ => rfl)) ?_
                  refine AllSteps.cons (Step.no 23 true 97 rfl rfl rfl (fun u w h => by rw [show u = (Go.undef : Value) from h]; intro h'; cases h') (fun _ => rfl)) ?_
                  refine AllSteps.cons (Step.no 23 true 97 rfl rfl rfl (fun u w h => by rw [show u = (Go.undef : Value) from h]; intro h'; cases h') (fun _ => rfl)) ?_
                  refine AllSteps.cons (Step.no 23 true 97 rfl rfl rfl (fun u w h => by rw [show u = (Go.undef : Value) from h]; intro h'; cases h') (fun _ => rfl)) ?_
                  refine AllSteps.cons (Step.no 23 true 97 rfl rfl rfl (fun u w h => by rw [show u = (Go.undef : Value) from h]; intro h'; cases h') (fun _ => rfl)) ?_
                  refine AllSteps.cons (Step.no 23 true 97 rfl rfl rfl (fun u w h => by rw [show u = (Go.undef : Value) from h]; intro h'; cases h') (fun _ => rfl)) ?_
                  refine AllSteps.cons (Step.no 23 true 97 rfl rfl rfl (fun u w h => by rw [show u = (Go.undef : Value) from h]; intro h'; cases h') (fun _ => rfl)) ?_
                  refine AllSteps.cons (Step.no 23 true 97 rfl rfl rfl (fun u w h => by rw [show u = (Go.undef : Value) from h]; intro h'; cases h') (fun _ => rfl)) ?_
                  refine AllSteps.cons (Step.no 23 true 97 rfl rfl rfl (fun u w h => by rw [show u = (Go.undef : Value) from h]; intro h'; cases h') (fun _ => rfl)) ?_
                  refine AllSteps.cons (Step.no 23 true 97 rfl rfl rfl (fun u w h => by rw [show u = (Go.undef : Value) from h]; intro h'; cases h') (fun _ => rfl)) ?_
                  refine AllSteps.cons (Step.no 20 false 94 rfl rfl rfl (fun u w h => by rw [show u = (.bool true : Value) from h]; intro h'; cases h') (fun _ => rfl)) ?_
                  refine AllSteps.cons (Step.plain rfl fun a w' K hl hK => ?_) ?_
                  · obtain ⟨_, _, _, h94⟩ := hl.dep 20 94 rfl rfl
                    replace h94 : a.eval (.tmp 94) = _ := h94
                    obtain ⟨_, _, _, h108⟩ := hl.dep 34 108 rfl rfl
                    replace h108 : a.eval (.tmp 108) = _ := h108
                    exact wp_pick rfl true h94 (hK _ _ (Kept.refl _) rfl)
                  exact AllSteps.nil
                · intro f w19 hk19 hf
                  obtain ⟨_, _, h109⟩ := hf 109 rfl rfl
                  replace h109 : f 109 = .bool true := h109
                  simp only [Exit.then, fill, dsts, List.filterMap_cons, List.filterMap_nil, List.foldl_cons, List.foldl_nil, Act.put, h109, List.setIfInBounds_toArray, List.set_cons_succ, List.set_cons_zero]
                  clear hf h109
                  have hc1 := (Below.cell hk19 (p := ⟨bp, op + i, none⟩) hbp).trans HC1.out
                  have hc2 := (Below.cell hk19 (p := ⟨bt, ot + i, none⟩) hbt).trans HC2.out
                  have hbp19 := Nat.lt_of_lt_of_le hbp hk19.size
                  have hbt19 := Nat.lt_of_lt_of_le hbt hk19.size
                  replace HS := Lib.hid (HS.out.below hk19 HS.out.o4)
                  clear hk19
                  go_wp2_with (first
                      | ((with_reducible show wpList _ _ _ (⟨some 110, _, _, _, _, _⟩ :: _) _ _); refine wpList_build_ino rfl rfl ?_)
                      | ((with_reducible show wpList _ _ _ (⟨none, Op.store 24 (.tmp 8) _, _, _, _, _⟩ :: _) _ _); refine wpList_store_ino rfl _ _ rfl HS.out.r8 zIno_len zIno_len rfl rfl ?_; intro w9 hr9 ho9))
                  (try simp only [Exit.inBlock, Exit.then])
                  refine bodyPost_ret (results_ino3 rfl hr9 zIno_len _ rfl) rfl ?_
                  exact nextR_none HF.out (HS.out.end8 ho9)
              · obtain ⟨kn, rfl⟩ := Int.eq_ofNat_of_zero_le (show 0 ≤ kz by omega)
                have DC0 : ¬ (kn : Int) < 0 := c0
                have DC2 : ¬ BV ≤ (kn : Int) := c2
                have DC3 : ¬ 32 ≤ (kn : Int) := c3
                rcases Nat.eq_zero_or_pos i with hi0 | hi0
                · have hl1 : last = -1 := hla hi0
                  have DC4 : ¬ 0 < (i : Int) := by omega
                  have HG2 : Hid (goP BV (-1) ps ts Y = goP BV (kn : Int) (ps.drop (i + 1)) (ts.drop (i + 1)) (xs.set (5 + kn) tz)) := by
                    show _ = _
                    rw [HGO.out, goP, if_neg (by omega), Int.toNat_natCast]
                  clear hcp hla hlb hl1 hi0
                  go_wp2_with fail
                  refine wp_region_rely (by kernel_rfl) (fun d u w' => match d with
                    | 74 => u = (.slice (some ⟨bp, op, none⟩) ps.length cp : Value)
                    | 75 => u = (.int .i64 (i : Int) : Value)
                    | 76 => u = (.pointer (some ⟨bp, op + i, none⟩) : Value)
                    | 77 => u = (.int .i64 (kn : Int) : Value)
                    | 78 => u = (.bool false : Value)
                    | 79 => u = (.bool false : Value)
                    | 80 => u = (.slice (some ⟨bp, op, none⟩) ps.length cp : Value)
                    | 81 => u = (.int .i64 (i : Int) : Value)
                    | 82 => u = (.pointer (some ⟨bp, op + i, none⟩) : Value)
                    | 83 => u = (.int .i64 (kn : Int) : Value)
                    | 84 => u = (.int .i64 BV : Value)
                    | 85 => u = (.bool false : Value)
                    | 86 => u = (.bool false : Value)
                    | 87 => u = (.bool false : Value)
                    | 88 => u = (.slice (some ⟨bp, op, none⟩) ps.length cp : Value)
                    | 89 => u = (.int .i64 (i : Int) : Value)
                    | 90 => u = (.pointer (some ⟨bp, op + i, none⟩) : Value)
                    | 91 => u = (.int .i64 (kn : Int) : Value)
                    | 92 => u = (.bool false : Value)
                    | 93 => u = (.bool false : Value)
                    | 94 => u = (.bool false : Value)
                    | 95 => u = (.int .i64 (i : Int) : Value)
                    | 96 => u = (.bool false : Value)
                    | 97 => u = (.bool false : Value)
                    | 98 => u = (Go.undef : Value)
                    | 99 => u = (Go.undef : Value)
                    | 100 => u = (Go.undef : Value)
                    | 101 => u = (Go.undef : Value)
                    | 102 => u = (Go.undef : Value)
                    | 103 => u = (Go.undef : Value)
                    | 104 => u = (Go.undef : Value)
                    | 105 => u = (Go.undef : Value)
                    | 106 => u = (Go.undef : Value)
                    | 107 => u = (Go.undef : Value)
                    | 108 => u = (.bool false : Value)
                    | 109 => u = (.bool false : Value)
                    | _ => True) 156 rfl (by decide +kernel) [109] ?_ ?_
                  · refine AllSteps.cons (Step.move _ rfl rfl fun a w' hl => hl.old 2 rfl) ?_
                    refine AllSteps.cons (Step.move _ rfl rfl fun a w' hl => hl.old 14 rfl) ?_
                    refine AllSteps.cons (Step.plain rfl fun a w' K hl hK => ?_) ?_
                    · obtain ⟨_, _, _, h74⟩ := hl.dep 0 74 rfl rfl
                      replace h74 : a.eval (.tmp 74) = _ := h74
                      obtain ⟨_, _, _, h75⟩ := hl.dep 1 75 rfl rfl
                      replace h75 : a.eval (.tmp 75) = _ := h75
                      refine wp_val (.pointer (some ⟨bp, op + i, none⟩)) ?_ (hK _ _ (Kept.refl _) rfl)
                      clear hl hK
                      generalize a.eval = ρ at *
                      simp [execOp, go_sem, h74, h75, hiI]
                      try (intro h; omega)
                    refine AllSteps.cons (Step.plain rfl fun a w' K hl hK => ?_) ?_
                    · obtain ⟨_, _, _, h76⟩ := hl.dep 2 76 rfl rfl
                      replace h76 : a.eval (.tmp 76) = _ := h76
                      have hcell : w'.cell? ⟨bp, op + i, none⟩ = some (.int .i64 (kn : Int)) := (Below.cell hl.kept hbp).trans HC1.out
                      refine wp_val (.int .i64 (kn : Int)) ?_ (hK _ _ (Kept.refl _) rfl)
                      clear hl hK
                      generalize a.eval = ρ at *
                      simp [execOp, go_sem, h76, hcell]
                    refine AllSteps.cons (Step.plain rfl fun a w' K hl hK => ?_) ?_
                    · obtain ⟨_, _, _, h77⟩ := hl.dep 3 77 rfl rfl
                      replace h77 : a.eval (.tmp 77) = _ := h77
                      have hconst : ∀ x, a.eval (.const x) = x := fun _ => rfl
                      refine wp_val (.bool false) ?_ (hK _ _ (Kept.refl _) rfl)
                      clear hl hK
                      generalize a.eval = ρ at *
                      simp [execOp, go_sem, h77, hconst, DC0]
                    refine AllSteps.cons (Step.move _ rfl rfl fun a w' hl => let ⟨_, _, _, h⟩ := hl.dep 4 78 rfl rfl; h) ?_
                    refine AllSteps.cons (Step.yes 5 false 79 rfl rfl rfl (fun _ _ h => h) fun a w' K hl hK => ?_) ?_
                    · have h2 : a.eval (.tmp 2) = (.slice (some ⟨bp, op, none⟩) ps.length cp : Value) := hl.old 2 rfl
                      exact wp_val (a.eval (.tmp 2)) rfl (hK _ _ (Kept.refl _) h2)
                    refine AllSteps.cons (Step.yes 5 false 79 rfl rfl rfl (fun _ _ h => h) fun a w' K hl hK => ?_) ?_
                    · have h14 : a.eval (.tmp 14) = (.int .i64 (i : Int) : Value) := hl.old 14 rfl
                      exact wp_val (a.eval (.tmp 14)) rfl (hK _ _ (Kept.refl _) h14)
                    refine AllSteps.cons (Step.yes 5 false 79 rfl rfl rfl (fun _ _ h => h) fun a w' K hl hK => ?_) ?_
                    · obtain ⟨_, _, _, h80⟩ := hl.dep 6 80 rfl rfl
                      replace h80 : a.eval (.tmp 80) = _ := h80
                      obtain ⟨_, _, _, h81⟩ := hl.dep 7 81 rfl rfl
                      replace h81 : a.eval (.tmp 81) = _ := h81
                      refine wp_val (.pointer (some ⟨bp, op + i, none⟩)) ?_ (hK _ _ (Kept.refl _) rfl)
                      clear hl hK
                      generalize a.eval = ρ at *
                      simp [execOp, go_sem, h80, h81, hiI]
                      try (intro h; omega)
                    refine AllSteps.cons (Step.yes 5 false 79 rfl rfl rfl (fun _ _ h => h) fun a w' K hl hK => ?_) ?_
                    · obtain ⟨_, _, _, h82⟩ := hl.dep 8 82 rfl rfl
                      replace h82 : a.eval (.tmp 82) = _ := h82
                      have hcell : w'.cell? ⟨bp, op + i, none⟩ = some (.int .i64 (kn : Int)) := (Below.cell hl.kept hbp).trans HC1.out
                      refine wp_val (.int .i64 (kn : Int)) ?_ (hK _ _ (Kept.refl _) rfl)
                      clear hl hK
                      generalize a.eval = ρ at *
                      simp [execOp, go_sem, h82, hcell]
                    refine AllSteps.cons (Step.yes 5 false 79 rfl rfl rfl (fun _ _ h => h) fun a w' K hl hK => ?_) ?_
                    · have h12 : a.eval (.tmp 12) = (.int .i64 BV : Value) := hl.old 12 rfl
                      exact wp_val (a.eval (.tmp 12)) rfl (hK _ _ (Kept.refl _) h12)
                    refine AllSteps.cons (Step.yes 5 false 79 rfl rfl rfl (fun _ _ h => h) fun a w' K hl hK => ?_) ?_
                    · obtain ⟨_, _, _, h83⟩ := hl.dep 9 83 rfl rfl
                      replace h83 : a.eval (.tmp 83) = _ := h83
                      obtain ⟨_, _, _, h84⟩ := hl.dep 10 84 rfl rfl
                      replace h84 : a.eval (.tmp 84) = _ := h84
                      refine wp_val (.bool false) ?_ (hK _ _ (Kept.refl _) rfl)
                      clear hl hK
                      generalize a.eval = ρ at *
                      simp [execOp, go_sem, h83, h84, DC2]
                    refine AllSteps.cons (Step.plain rfl fun a w' K hl hK => ?_) ?_
                    · obtain ⟨_, _, _, h79⟩ := hl.dep 5 79 rfl rfl
                      replace h79 : a.eval (.tmp 79) = _ := h79
                      obtain ⟨_, _, _, h85⟩ := hl.dep 11 85 rfl rfl
                      replace h85 : a.eval (.tmp 85) = _ := h85
                      exact wp_pick rfl false h79 (hK _ _ (Kept.refl _) h85)
                    refine AllSteps.cons (Step.move _ rfl rfl fun a w' hl => let ⟨_, _, _, h⟩ := hl.dep 12 86 rfl rfl; h) ?_
                    refine AllSteps.cons (Step.yes 13 false 87 rfl rfl rfl (fun _ _ h => h) fun a w' K hl hK => ?_) ?_
                    · have h2 : a.eval (.tmp 2) = (.slice (some ⟨bp, op, none⟩) ps.length cp : Value) := hl.old 2 rfl
                      exact wp_val (a.eval (.tmp 2)) rfl (hK _ _ (Kept.refl _) h2)
                    refine AllSteps.cons (Step.yes 13 false 87 rfl rfl rfl (fun _ _ h => h) fun a w' K hl hK => ?_) ?_
                    · have h14 : a.eval (.tmp 14) = (.int .i64 (i : Int) : Value) := hl.old 14 rfl
                      exact wp_val (a.eval (.tmp 14)) rfl (hK _ _ (Kept.refl _) h14)
                    refine AllSteps.cons (Step.yes 13 false 87 rfl rfl rfl (fun _ _ h => h) fun a w' K hl hK => ?_) ?_
                    · obtain ⟨_, _, _, h88⟩ := hl.dep 14 88 rfl rfl
                      replace h88 : a.eval (.tmp 88) = _ := h88
                      obtain ⟨_, _, _, h89⟩ := hl.dep 15 89 rfl rfl
                      replace h89 : a.eval (.tmp 89) = _ := h89
                      refine wp_val (.pointer (some ⟨bp, op + i, none⟩)) ?_ (hK _ _ (Kept.refl _) rfl)
                      clear hl hK
                      generalize a.eval = ρ at *
                      simp [execOp, go_sem, h88, h89, hiI]
                      try (intro h; omega)
                    refine AllSteps.cons (Step.yes 13 false 87 rfl rfl rfl (fun _ _ h => h) fun a w' K hl hK => ?_) ?_
                    · obtain ⟨_, _, _, h90⟩ := hl.dep 16 90 rfl rfl
                      replace h90 : a.eval (.tmp 90) = _ := h90
                      have hcell : w'.cell? ⟨bp, op + i, none⟩ = some (.int .i64 (kn : Int)) := (Below.cell hl.kept hbp).trans HC1.out
                      refine wp_val (.int .i64 (kn : Int)) ?_ (hK _ _ (Kept.refl _) rfl)
                      clear hl hK
                      generalize a.eval = ρ at *
                      simp [execOp, go_sem, h90, hcell]
                    refine AllSteps.cons (Step.yes 13 false 87 rfl rfl rfl (fun _ _ h => h) fun a w' K hl hK => ?_) ?_
                    · obtain ⟨_, _, _, h91⟩ := hl.dep 17 91 rfl rfl
                      replace h91 : a.eval (.tmp 91) = _ := h91
                      have hconst : ∀ x, a.eval (.const x) = x := fun _ => rfl
                      refine wp_val (.bool false) ?_ (hK _ _ (Kept.refl _) rfl)
                      clear hl hK
                      generalize a.eval = ρ at *
                      simp [execOp, go_sem, h91, hconst, DC3]
                    refine AllSteps.cons (Step.plain rfl fun a w' K hl hK => ?_) ?_
                    · obtain ⟨_, _, _, h87⟩ := hl.dep 13 87 rfl rfl
                      replace h87 : a.eval (.tmp 87) = _ := h87
                      obtain ⟨_, _, _, h92⟩ := hl.dep 18 92 rfl rfl
                      replace h92 : a.eval (.tmp 92) = _ := h92
                      exact wp_pick rfl false h87 (hK _ _ (Kept.refl _) h92)
                    refine AllSteps.cons (Step.move _ rfl rfl fun a w' hl => let ⟨_, _, _, h⟩ := hl.dep 19 93 rfl rfl; h) ?_
                    refine AllSteps.cons (Step.yes 20 false 94 rfl rfl rfl (fun _ _ h => h) fun a w' K hl hK => ?_) ?_
                    · have h14 : a.eval (.tmp 14) = (.int .i64 (i : Int) : Value) := hl.old 14 rfl
                      exact wp_val (a.eval (.tmp 14)) rfl (hK _ _ (Kept.refl _) h14)
                    refine AllSteps.cons (Step.yes 20 false 94 rfl rfl rfl (fun _ _ h => h) fun a w' K hl hK => ?_) ?_
                    · obtain ⟨_, _, _, h95⟩ := hl.dep 21 95 rfl rfl
                      replace h95 : a.eval (.tmp 95) = _ := h95
                      have hconst : ∀ x, a.eval (.const x) = x := fun _ => rfl
                      refine wp_val (.bool false) ?_ (hK _ _ (Kept.refl _) rfl)
                      clear hl hK
                      generalize a.eval = ρ at *
                      simp [execOp, go_sem, h95, hconst]
                      omega
                    refine AllSteps.cons (Step.yes 20 false 94 rfl rfl rfl (fun _ _ h => h) fun a w' K hl hK => ?_) ?_
                    · obtain ⟨_, _, _, h96⟩ := hl.dep 22 96 rfl rfl
                      replace h96 : a.eval (.tmp 96) = _ := h96
                      exact wp_val (a.eval (.tmp 96)) rfl (hK _ _ (Kept.refl _) h96)
                    refine AllSteps.cons (Step.no 23 true 97 rfl rfl rfl (fun u w h => by rw [show u = (.bool false : Value) from h]; intro h'; cases h') (fun _ => rfl)) ?_
                    refine AllSteps.cons (Step.no 23 true 97 rfl rfl rfl (fun u w h => by rw [show u = (.bool false : Value) from h]; intro h'; cases h') (fun _ => rfl)) ?_
                    refine AllSteps.cons (Step.no 23 true 97 rfl rfl rfl (fun u w h => by rw [show u = (.bool false : Value) from h]; intro h'; cases h') (fun _ => rfl)) ?_
                    refine AllSteps.cons (Step.no 23 true 97 rfl rfl rfl (fun u w h => by rw [show u = (.bool false : Value) from h]; intro h'; cases h') (fun _ => rfl)) ?_
                    refine AllSteps.cons (Step.no 23 true 97 rfl rfl rfl (fun u w h => by rw [show u = (.bool false : Value) from h]; intro h'; cases h') (fun _ => rfl)) ?_
                    refine AllSteps.cons (Step.no 23 true 97 rfl rfl rfl (fun u w h => by rw [show u = (.bool false : Value) from h]; intro h'; cases h') (fun _ => rfl)) ?_
                    refine AllSteps.cons (Step.no 23 true 97 rfl rfl rfl (fun u w h => by rw [show u = (.bool false : Value) from h]; intro h'; cases h') (fun _ => rfl)) ?_
                    refine AllSteps.cons (Step.no 23 true 97 rfl rfl rfl (fun u w h => by rw [show u = (.bool false : Value) from h]; intro h'; cases h') (fun _ => rfl)) ?_
                    refine AllSteps.cons (Step.no 23 true 97 rfl rfl rfl (fun u w h => by rw [show u = (.bool false : Value) from h]; intro h'; cases h') (fun _ => rfl)) ?_
                    refine AllSteps.cons (Step.no 23 true 97 rfl rfl rfl (fun u w h => by rw [show u = (.bool false : Value) from h]; intro h'; cases h') (fun _ => rfl)) ?_
                    refine AllSteps.cons (Step.yes 20 false 94 rfl rfl rfl (fun _ _ h => h) fun a w' K hl hK => ?_) ?_
                    · obtain ⟨_, _, _, h97⟩ := hl.dep 23 97 rfl rfl
                      replace h97 : a.eval (.tmp 97) = _ := h97
                      obtain ⟨_, _, _, h107⟩ := hl.dep 33 107 rfl rfl
                      replace h107 : a.eval (.tmp 107) = _ := h107
                      exact wp_pick rfl false h97 (hK _ _ (Kept.refl _) rfl)
                    refine AllSteps.cons (Step.plain rfl fun a w' K hl hK => ?_) ?_
                    · obtain ⟨_, _, _, h94⟩ := hl.dep 20 94 rfl rfl
                      replace h94 : a.eval (.tmp 94) = _ := h94
                      obtain ⟨_, _, _, h108⟩ := hl.dep 34 108 rfl rfl
                      replace h108 : a.eval (.tmp 108) = _ := h108
                      exact wp_pick rfl false h94 (hK _ _ (Kept.refl _) h108)
                    exact AllSteps.nil
                  · intro f w19 hk19 hf
                    obtain ⟨_, _, h109⟩ := hf 109 rfl rfl
                    replace h109 : f 109 = .bool false := h109
                    simp only [Exit.then, fill, dsts, List.filterMap_cons, List.filterMap_nil, List.foldl_cons, List.foldl_nil, Act.put, h109, List.setIfInBounds_toArray, List.set_cons_succ, List.set_cons_zero]
                    clear hf h109
                    have hc1 := (Below.cell hk19 (p := ⟨bp, op + i, none⟩) hbp).trans HC1.out
                    have hc2 := (Below.cell hk19 (p := ⟨bt, ot + i, none⟩) hbt).trans HC2.out
                    have hbp19 := Nat.lt_of_lt_of_le hbp hk19.size
                    have hbt19 := Nat.lt_of_lt_of_le hbt hk19.size
                    replace HS := Lib.hid (HS.out.below hk19 HS.out.o4)
                    clear hk19
                    go_wp2_with fail
                    refine wp_region_fin _ (Nat.le_refl _) (by kernel_rfl) (fun d u w' => match d with
                      | 111 => u = (.slice (some ⟨bp, op, none⟩) ps.length cp : Value)
                      | 112 => u = (.int .i64 (i : Int) : Value)
                      | 113 => u = (.pointer (some ⟨bp, op + i, none⟩) : Value)
                      | 114 => u = (.int .i64 (kn : Int) : Value)
                      | 115 => u = (.slice (some ⟨bt, ot, none⟩) ts.length ct : Value)
                      | 116 => u = (.int .i64 (i : Int) : Value)
                      | 117 => u = (.pointer (some ⟨bt, ot + i, none⟩) : Value)
                      | 118 => u = (.int .i64 tz : Value)
                      | 119 => u = (.pointer (some ⟨w5.heap.size, 5, none⟩) : Value)
                      | 120 => u = (.pointer (some ⟨w5.heap.size, 5 + kn, none⟩) : Value)
                      | _ => True) 156 rfl (by decide +kernel) [] 10 (by decide +kernel) (fun w w' => IRow w' w5.heap.size (xs.set (5 + kn) tz) ∧ Only w5.heap.size w w' ∧ (xs.set (5 + kn) tz).length = 37) ?_ ?_
                    · refine AllSteps.cons (StepF.of (by decide) (Step.move _ rfl rfl fun a w' hl => hl.old 2 rfl)) ?_
                      refine AllSteps.cons (StepF.of (by decide) (Step.move _ rfl rfl fun a w' hl => hl.old 14 rfl)) ?_
                      refine AllSteps.cons (StepF.of (by decide) (Step.plain rfl fun a w' K hl hK => ?_)) ?_
                      · obtain ⟨_, _, _, h111⟩ := hl.dep 0 111 rfl rfl
                        replace h111 : a.eval (.tmp 111) = _ := h111
                        obtain ⟨_, _, _, h112⟩ := hl.dep 1 112 rfl rfl
                        replace h112 : a.eval (.tmp 112) = _ := h112
                        refine wp_val (.pointer (some ⟨bp, op + i, none⟩)) ?_ (hK _ _ (Kept.refl _) rfl)
                        clear hl hK
                        generalize a.eval = ρ at *
                        simp [execOp, go_sem, h111, h112]
                        try (intro h; omega)
                      refine AllSteps.cons (StepF.of (by decide) (Step.plain rfl fun a w' K hl hK => ?_)) ?_
                      · obtain ⟨_, _, _, h113⟩ := hl.dep 2 113 rfl rfl
                        replace h113 : a.eval (.tmp 113) = _ := h113
                        have hcell : w'.cell? ⟨bp, op + i, none⟩ = some (.int .i64 (kn : Int)) := (Below.cell hl.kept hbp19).trans hc1
                        refine wp_val (.int .i64 (kn : Int)) ?_ (hK _ _ (Kept.refl _) rfl)
                        clear hl hK
                        generalize a.eval = ρ at *
                        simp [execOp, go_sem, h113, hcell]
                      refine AllSteps.cons (StepF.of (by decide) (Step.move _ rfl rfl fun a w' hl => hl.old 3 rfl)) ?_
                      refine AllSteps.cons (StepF.of (by decide) (Step.move _ rfl rfl fun a w' hl => hl.old 14 rfl)) ?_
                      refine AllSteps.cons (StepF.of (by decide) (Step.plain rfl fun a w' K hl hK => ?_)) ?_
                      · obtain ⟨_, _, _, h115⟩ := hl.dep 4 115 rfl rfl
                        replace h115 : a.eval (.tmp 115) = _ := h115
                        obtain ⟨_, _, _, h116⟩ := hl.dep 5 116 rfl rfl
                        replace h116 : a.eval (.tmp 116) = _ := h116
                        refine wp_val (.pointer (some ⟨bt, ot + i, none⟩)) ?_ (hK _ _ (Kept.refl _) rfl)
                        clear hl hK
                        generalize a.eval = ρ at *
                        simp [execOp, go_sem, h115, h116]
                        try (intro h; omega)
                      refine AllSteps.cons (StepF.of (by decide) (Step.plain rfl fun a w' K hl hK => ?_)) ?_
                      · obtain ⟨_, _, _, h117⟩ := hl.dep 6 117 rfl rfl
                        replace h117 : a.eval (.tmp 117) = _ := h117
                        have hcell : w'.cell? ⟨bt, ot + i, none⟩ = some (.int .i64 tz) := (Below.cell hl.kept hbt19).trans hc2
                        refine wp_val (.int .i64 tz) ?_ (hK _ _ (Kept.refl _) rfl)
                        clear hl hK
                        generalize a.eval = ρ at *
                        simp [execOp, go_sem, h117, hcell]
                      refine AllSteps.cons (StepF.of (by decide) (Step.plain rfl fun a w' K hl hK => ?_)) ?_
                      · have h11 : a.eval (.tmp 11) = (.pointer (some ⟨w5.heap.size, 0, none⟩) : Value) := hl.old 11 rfl
                        refine wp_val (.pointer (some ⟨w5.heap.size, 5, none⟩)) ?_ (hK _ _ (Kept.refl _) rfl)
                        clear hl hK
                        generalize a.eval = ρ at *
                        simp [execOp, go_sem, h11]
                      refine AllSteps.cons (StepF.of (by decide) (Step.plain rfl fun a w' K hl hK => ?_)) ?_
                      · obtain ⟨_, _, _, h114⟩ := hl.dep 3 114 rfl rfl
                        replace h114 : a.eval (.tmp 114) = _ := h114
                        obtain ⟨_, _, _, h119⟩ := hl.dep 8 119 rfl rfl
                        replace h119 : a.eval (.tmp 119) = _ := h119
                        refine wp_val (.pointer (some ⟨w5.heap.size, 5 + kn, none⟩)) ?_ (hK _ _ (Kept.refl _) rfl)
                        clear hl hK
                        generalize a.eval = ρ at *
                        simp [execOp, go_sem, h114, h119]
                        all_goals (try intro h)
                        all_goals (try omega)
                      refine AllSteps.cons (StepF.fin rfl fun a w' K hl hK => ?_) ?_
                      · obtain ⟨_, _, _, h118⟩ := hl.dep 7 118 rfl rfl
                        replace h118 : a.eval (.tmp 118) = _ := h118
                        obtain ⟨_, _, _, h120⟩ := hl.dep 9 120 rfl rfl
                        replace h120 : a.eval (.tmp 120) = _ := h120
                        exact wp_store_num 3 rfl (by kernel_rfl) ((HS.out.below hl.kept HS.out.o4).r11) HL.out (5 + kn) tz (by omega) h120 h118 (fun w2 h1 h2 h3 => hK w2 ⟨h1, h2, h3⟩)
                      exact AllSteps.nil
                    · intro f w20 w21 hk20 hf hR
                      simp only [fill, dsts, List.filterMap_cons, List.filterMap_nil, List.foldl_cons, List.foldl_nil, Act.put, List.setIfInBounds_toArray, List.set_cons_succ, List.set_cons_zero]
                      clear hf
                      obtain ⟨hr9, ho9, hl9⟩ := hR
                      replace HS := Lib.hid (HS.out.below hk20 HS.out.o4)
                      clear hk20
                      go_wp2_with fail
                      go_roundw
                      case measure => simp [intOf]; omega
                      case rel => exact ⟨i + 1, by omega, by simp, (kn : Int), _, fun h => by omega, fun i2 h => by (have : i2 = i := by omega); subst this; exact HKZ.out, by omega, hl9, HG2.out, HS.out.on11 hr9 ho9⟩
                · obtain ⟨i', hii⟩ : ∃ i', i = i' + 1 := ⟨i - 1, by omega⟩
                  have hpl := hlb i' hii
                  have hc3 := hcp i' (.int .i64 last) (by simp [hpl])
                  have hw1 : IntKind.i64.wrap ((i : Int) - 1) = (i' : Int) := by rw [IntKind.wrap_i64]; omega
                  have hi2 : (0 : Int) < (i : Int) := by omega
                  have hi3 : (i' : Int) < (ps.length : Int) := by omega
                  have HC3 := Lib.hid hc3
                  have DC4 : 0 < (i : Int) := hi2
                  clear hcp hla hlb hpl hii hc3 hi0
                  by_cases c1 : (kn : Int) ≤ last
                  · have HF : Hid (nextM old now ps ts = none) := by show _ = _; rw [HM.out, HGO.out, goP, if_pos (.inl c1)]; rfl
                    have DC1 : (kn : Int) ≤ last := c1
                    go_wp2_with fail
                    refine wp_region_rely (by kernel_rfl) (fun d u w' => match d with
                      | 74 => u = (.slice (some ⟨bp, op, none⟩) ps.length cp : Value)
                      | 75 => u = (.int .i64 (i : Int) : Value)
                      | 76 => u = (.pointer (some ⟨bp, op + i, none⟩) : Value)
                      | 77 => u = (.int .i64 (kn : Int) : Value)
                      | 78 => u = (.bool false : Value)
                      | 79 => u = (.bool false : Value)
                      | 80 => u = (.slice (some ⟨bp, op, none⟩) ps.length cp : Value)
                      | 81 => u = (.int .i64 (i : Int) : Value)
                      | 82 => u = (.pointer (some ⟨bp, op + i, none⟩) : Value)
                      | 83 => u = (.int .i64 (kn : Int) : Value)
                      | 84 => u = (.int .i64 BV : Value)
                      | 85 => u = (.bool false : Value)
                      | 86 => u = (.bool false : Value)
                      | 87 => u = (.bool false : Value)
                      | 88 => u = (.slice (some ⟨bp, op, none⟩) ps.length cp : Value)
                      | 89 => u = (.int .i64 (i : Int) : Value)
                      | 90 => u = (.pointer (some ⟨bp, op + i, none⟩) : Value)
                      | 91 => u = (.int .i64 (kn : Int) : Value)
                      | 92 => u = (.bool false : Value)
                      | 93 => u = (.bool false : Value)
                      | 94 => u = (.bool false : Value)
                      | 95 => u = (.int .i64 (i : Int) : Value)
                      | 96 => u = (.bool true : Value)
                      | 97 => u = (.bool true : Value)
                      | 98 => u = (.slice (some ⟨bp, op, none⟩) ps.length cp : Value)
                      | 99 => u = (.int .i64 (i : Int) : Value)
                      | 100 => u = (.pointer (some ⟨bp, op + i, none⟩) : Value)
                      | 101 => u = (.int .i64 (kn : Int) : Value)
                      | 102 => u = (.slice (some ⟨bp, op, none⟩) ps.length cp : Value)
                      | 103 => u = (.int .i64 (i : Int) : Value)
                      | 104 => u = (.int .i64 (i' : Int) : Value)
                      | 105 => u = (.pointer (some ⟨bp, op + i', none⟩) : Value)
                      | 106 => u = (.int .i64 last : Value)
                      | 107 => u = (.bool true : Value)
                      | 108 => u = (.bool true : Value)
                      | 109 => u = (.bool true : Value)
                      | _ => True) 156 rfl (by decide +kernel) [109] ?_ ?_
                    · refine AllSteps.cons (Step.move _ rfl rfl fun a w' hl => hl.old 2 rfl) ?_
                      refine AllSteps.cons (Step.move _ rfl rfl fun a w' hl => hl.old 14 rfl) ?_
                      refine AllSteps.cons (Step.plain rfl fun a w' K hl hK => ?_) ?_
                      · obtain ⟨_, _, _, h74⟩ := hl.dep 0 74 rfl rfl
                        replace h74 : a.eval (.tmp 74) = _ := h74
                        obtain ⟨_, _, _, h75⟩ := hl.dep 1 75 rfl rfl
                        replace h75 : a.eval (.tmp 75) = _ := h75
                        refine wp_val (.pointer (some ⟨bp, op + i, none⟩)) ?_ (hK _ _ (Kept.refl _) rfl)
                        clear hl hK
                        generalize a.eval = ρ at *
                        simp [execOp, go_sem, h74, h75, hiI]
                        try (intro h; omega)
                      refine AllSteps.cons (Step.plain rfl fun a w' K hl hK => ?_) ?_
                      · obtain ⟨_, _, _, h76⟩ := hl.dep 2 76 rfl rfl
                        replace h76 : a.eval (.tmp 76) = _ := h76
                        have hcell : w'.cell? ⟨bp, op + i, none⟩ = some (.int .i64 (kn : Int)) := (Below.cell hl.kept hbp).trans HC1.out
                        refine wp_val (.int .i64 (kn : Int)) ?_ (hK _ _ (Kept.refl _) rfl)
                        clear hl hK
                        generalize a.eval = ρ at *
                        simp [execOp, go_sem, h76, hcell]
                      refine AllSteps.cons (Step.plain rfl fun a w' K hl hK => ?_) ?_
                      · obtain ⟨_, _, _, h77⟩ := hl.dep 3 77 rfl rfl
                        replace h77 : a.eval (.tmp 77) = _ := h77
                        have hconst : ∀ x, a.eval (.const x) = x := fun _ => rfl
                        refine wp_val (.bool false) ?_ (hK _ _ (Kept.refl _) rfl)
                        clear hl hK
                        generalize a.eval = ρ at *
                        simp [execOp, go_sem, h77, hconst, DC0]
                      refine AllSteps.cons (Step.move _ rfl rfl fun a w' hl => let ⟨_, _, _, h⟩ := hl.dep 4 78 rfl rfl; h) ?_
                      refine AllSteps.cons (Step.yes 5 false 79 rfl rfl rfl (fun _ _ h => h) fun a w' K hl hK => ?_) ?_
                      · have h2 : a.eval (.tmp 2) = (.slice (some ⟨bp, op, none⟩) ps.length cp : Value) := hl.old 2 rfl
                        exact wp_val (a.eval (.tmp 2)) rfl (hK _ _ (Kept.refl _) h2)
                      refine AllSteps.cons (Step.yes 5 false 79 rfl rfl rfl (fun _ _ h => h) fun a w' K hl hK => ?_) ?_
                      · have h14 : a.eval (.tmp 14) = (.int .i64 (i : Int) : Value) := hl.old 14 rfl
                        exact wp_val (a.eval (.tmp 14)) rfl (hK _ _ (Kept.refl _) h14)
                      refine AllSteps.cons (Step.yes 5 false 79 rfl rfl rfl (fun _ _ h => h) fun a w' K hl hK => ?_) ?_
                      · obtain ⟨_, _, _, h80⟩ := hl.dep 6 80 rfl rfl
                        replace h80 : a.eval (.tmp 80) = _ := h80
                        obtain ⟨_, _, _, h81⟩ := hl.dep 7 81 rfl rfl
                        replace h81 : a.eval (.tmp 81) = _ := h81
                        refine wp_val (.pointer (some ⟨bp, op + i, none⟩)) ?_ (hK _ _ (Kept.refl _) rfl)
                        clear hl hK
                        generalize a.eval = ρ at *
                        simp [execOp, go_sem, h80, h81, hiI]
                        try (intro h; omega)
                      refine AllSteps.cons (Step.yes 5 false 79 rfl rfl rfl (fun _ _ h => h) fun a w' K hl hK => ?_) ?_
                      · obtain ⟨_, _, _, h82⟩ := hl.dep 8 82 rfl rfl
                        replace h82 : a.eval (.tmp 82) = _ := h82
                        have hcell : w'.cell? ⟨bp, op + i, none⟩ = some (.int .i64 (kn : Int)) := (Below.cell hl.kept hbp).trans HC1.out
                        refine wp_val (.int .i64 (kn : Int)) ?_ (hK _ _ (Kept.refl _) rfl)
                        clear hl hK
                        generalize a.eval = ρ at *
                        simp [execOp, go_sem, h82, hcell]
                      refine AllSteps.cons (Step.yes 5 false 79 rfl rfl rfl (fun _ _ h => h) fun a w' K hl hK => ?_) ?_
                      · have h12 : a.eval (.tmp 12) = (.int .i64 BV : Value) := hl.old 12 rfl
                        exact wp_val (a.eval (.tmp 12)) rfl (hK _ _ (Kept.refl _) h12)
                      refine AllSteps.cons (Step.yes 5 false 79 rfl rfl rfl (fun _ _ h => h) fun a w' K hl hK => ?_) ?_
                      · obtain ⟨_, _, _, h83⟩ := hl.dep 9 83 rfl rfl
                        replace h83 : a.eval (.tmp 83) = _ := h83
                        obtain ⟨_, _, _, h84⟩ := hl.dep 10 84 rfl rfl
                        replace h84 : a.eval (.tmp 84) = _ := h84
                        refine wp_val (.bool false) ?_ (hK _ _ (Kept.refl _) rfl)
                        clear hl hK
                        generalize a.eval = ρ at *
                        simp [execOp, go_sem, h83, h84, DC2]
                      refine AllSteps.cons (Step.plain rfl fun a w' K hl hK => ?_) ?_
                      · obtain ⟨_, _, _, h79⟩ := hl.dep 5 79 rfl rfl
                        replace h79 : a.eval (.tmp 79) = _ := h79
                        obtain ⟨_, _, _, h85⟩ := hl.dep 11 85 rfl rfl
                        replace h85 : a.eval (.tmp 85) = _ := h85
                        exact wp_pick rfl false h79 (hK _ _ (Kept.refl _) h85)
                      refine AllSteps.cons (Step.move _ rfl rfl fun a w' hl => let ⟨_, _, _, h⟩ := hl.dep 12 86 rfl rfl; h) ?_
                      refine AllSteps.cons (Step.yes 13 false 87 rfl rfl rfl (fun _ _ h => h) fun a w' K hl hK => ?_) ?_
                      · have h2 : a.eval (.tmp 2) = (.slice (some ⟨bp, op, none⟩) ps.length cp : Value) := hl.old 2 rfl
                        exact wp_val (a.eval (.tmp 2)) rfl (hK _ _ (Kept.refl _) h2)
                      refine AllSteps.cons (Step.yes 13 false 87 rfl rfl rfl (fun _ _ h => h) fun a w' K hl hK => ?_) ?_
                      · have h14 : a.eval (.tmp 14) = (.int .i64 (i : Int) : Value) := hl.old 14 rfl
                        exact wp_val (a.eval (.tmp 14)) rfl (hK _ _ (Kept.refl _) h14)
                      refine AllSteps.cons (Step.yes 13 false 87 rfl rfl rfl (fun _ _ h => h) fun a w' K hl hK => ?_) ?_
                      · obtain ⟨_, _, _, h88⟩ := hl.dep 14 88 rfl rfl
                        replace h88 : a.eval (.tmp 88) = _ := h88
                        obtain ⟨_, _, _, h89⟩ := hl.dep 15 89 rfl rfl
                        replace h89 : a.eval (.tmp 89) = _ := h89
                        refine wp_val (.pointer (some ⟨bp, op + i, none⟩)) ?_ (hK _ _ (Kept.refl _) rfl)
                        clear hl hK
                        generalize a.eval = ρ at *
                        simp [execOp, go_sem, h88, h89, hiI]
                        try (intro h; omega)
                      refine AllSteps.cons (Step.yes 13 false 87 rfl rfl rfl (fun _ _ h => h) fun a w' K hl hK => ?_) ?_
                      · obtain ⟨_, _, _, h90⟩ := hl.dep 16 90 rfl rfl
                        replace h90 : a.eval (.tmp 90) = _ := h90
                        have hcell : w'.cell? ⟨bp, op + i, none⟩ = some (.int .i64 (kn : Int)) := (Below.cell hl.kept hbp).trans HC1.out
                        refine wp_val (.int .i64 (kn : Int)) ?_ (hK _ _ (Kept.refl _) rfl)
                        clear hl hK
                        generalize a.eval = ρ at *
                        simp [execOp, go_sem, h90, hcell]
                      refine AllSteps.cons (Step.yes 13 false 87 rfl rfl rfl (fun _ _ h => h) fun a w' K hl hK => ?_) ?_
                      · obtain ⟨_, _, _, h91⟩ := hl.dep 17 91 rfl rfl
                        replace h91 : a.eval (.tmp 91) = _ := h91
                        have hconst : ∀ x, a.eval (.const x) = x := fun _ => rfl
                        refine wp_val (.bool false) ?_ (hK _ _ (Kept.refl _) rfl)
                        clear hl hK
                        generalize a.eval = ρ at *
                        simp [execOp, go_sem, h91, hconst, DC3]
                      refine AllSteps.cons (Step.plain rfl fun a w' K hl hK => ?_) ?_
                      · obtain ⟨_, _, _, h87⟩ := hl.dep 13 87 rfl rfl
                        replace h87 : a.eval (.tmp 87) = _ := h87
                        obtain ⟨_, _, _, h92⟩ := hl.dep 18 92 rfl rfl
                        replace h92 : a.eval (.tmp 92) = _ := h92
                        exact wp_pick rfl false h87 (hK _ _ (Kept.refl _) h92)
                      refine AllSteps.cons (Step.move _ rfl rfl fun a w' hl => let ⟨_, _, _, h⟩ := hl.dep 19 93 rfl rfl; h) ?_
                      refine AllSteps.cons (Step.yes 20 false 94 rfl rfl rfl (fun _ _ h => h) fun a w' K hl hK => ?_) ?_
                      · have h14 : a.eval (.tmp 14) = (.int .i64 (i : Int) : Value) := hl.old 14 rfl
                        exact wp_val (a.eval (.tmp 14)) rfl (hK _ _ (Kept.refl _) h14)
                      refine AllSteps.cons (Step.yes 20 false 94 rfl rfl rfl (fun _ _ h => h) fun a w' K hl hK => ?_) ?_
                      · obtain ⟨_, _, _, h95⟩ := hl.dep 21 95 rfl rfl
                        replace h95 : a.eval (.tmp 95) = _ := h95
                        have hconst : ∀ x, a.eval (.const x) = x := fun _ => rfl
                        refine wp_val (.bool true) ?_ (hK _ _ (Kept.refl _) rfl)
                        clear hl hK
                        generalize a.eval = ρ at *
                        simp [execOp, go_sem, h95, hconst]
                        omega
                      refine AllSteps.cons (Step.yes 20 false 94 rfl rfl rfl (fun _ _ h => h) fun a w' K hl hK => ?_) ?_
                      · obtain ⟨_, _, _, h96⟩ := hl.dep 22 96 rfl rfl
                        replace h96 : a.eval (.tmp 96) = _ := h96
                        exact wp_val (a.eval (.tmp 96)) rfl (hK _ _ (Kept.refl _) h96)
                      refine AllSteps.cons (Step.yes 23 true 97 rfl rfl rfl (fun _ _ h => h) fun a w' K hl hK => ?_) ?_
                      · have h2 : a.eval (.tmp 2) = (.slice (some ⟨bp, op, none⟩) ps.length cp : Value) := hl.old 2 rfl
                        exact wp_val (a.eval (.tmp 2)) rfl (hK _ _ (Kept.refl _) h2)
                      refine AllSteps.cons (Step.yes 23 true 97 rfl rfl rfl (fun _ _ h => h) fun a w' K hl hK => ?_) ?_
                      · have h14 : a.eval (.tmp 14) = (.int .i64 (i : Int) : Value) := hl.old 14 rfl
                        exact wp_val (a.eval (.tmp 14)) rfl (hK _ _ (Kept.refl _) h14)
                      refine AllSteps.cons (Step.yes 23 true 97 rfl rfl rfl (fun _ _ h => h) fun a w' K hl hK => ?_) ?_
                      · obtain ⟨_, _, _, h98⟩ := hl.dep 24 98 rfl rfl
                        replace h98 : a.eval (.tmp 98) = _ := h98
                        obtain ⟨_, _, _, h99⟩ := hl.dep 25 99 rfl rfl
                        replace h99 : a.eval (.tmp 99) = _ := h99
                        refine wp_val (.pointer (some ⟨bp, op + i, none⟩)) ?_ (hK _ _ (Kept.refl _) rfl)
                        clear hl hK
                        generalize a.eval = ρ at *
                        simp [execOp, go_sem, h98, h99, hiI]
                        try (intro h; omega)
                      refine AllSteps.cons (Step.yes 23 true 97 rfl rfl rfl (fun _ _ h => h) fun a w' K hl hK => ?_) ?_
                      · obtain ⟨_, _, _, h100⟩ := hl.dep 26 100 rfl rfl
                        replace h100 : a.eval (.tmp 100) = _ := h100
                        have hcell : w'.cell? ⟨bp, op + i, none⟩ = some (.int .i64 (kn : Int)) := (Below.cell hl.kept hbp).trans HC1.out
                        refine wp_val (.int .i64 (kn : Int)) ?_ (hK _ _ (Kept.refl _) rfl)
                        clear hl hK
                        generalize a.eval = ρ at *
                        simp [execOp, go_sem, h100, hcell]
                      refine AllSteps.cons (Step.yes 23 true 97 rfl rfl rfl (fun _ _ h => h) fun a w' K hl hK => ?_) ?_
                      · have h2 : a.eval (.tmp 2) = (.slice (some ⟨bp, op, none⟩) ps.length cp : Value) := hl.old 2 rfl
                        exact wp_val (a.eval (.tmp 2)) rfl (hK _ _ (Kept.refl _) h2)
                      refine AllSteps.cons (Step.yes 23 true 97 rfl rfl rfl (fun _ _ h => h) fun a w' K hl hK => ?_) ?_
                      · have h14 : a.eval (.tmp 14) = (.int .i64 (i : Int) : Value) := hl.old 14 rfl
                        exact wp_val (a.eval (.tmp 14)) rfl (hK _ _ (Kept.refl _) h14)
                      refine AllSteps.cons (Step.yes 23 true 97 rfl rfl rfl (fun _ _ h => h) fun a w' K hl hK => ?_) ?_
                      · obtain ⟨_, _, _, h103⟩ := hl.dep 29 103 rfl rfl
                        replace h103 : a.eval (.tmp 103) = _ := h103
                        have hconst : ∀ x, a.eval (.const x) = x := fun _ => rfl
                        refine wp_val (.int .i64 (i' : Int)) ?_ (hK _ _ (Kept.refl _) rfl)
                        clear hl hK
                        generalize a.eval = ρ at *
                        simp [execOp, go_sem, h103, hconst, hw1]
                      refine AllSteps.cons (Step.yes 23 true 97 rfl rfl rfl (fun _ _ h => h) fun a w' K hl hK => ?_) ?_
                      · obtain ⟨_, _, _, h102⟩ := hl.dep 28 102 rfl rfl
                        replace h102 : a.eval (.tmp 102) = _ := h102
                        obtain ⟨_, _, _, h104⟩ := hl.dep 30 104 rfl rfl
                        replace h104 : a.eval (.tmp 104) = _ := h104
                        refine wp_val (.pointer (some ⟨bp, op + i', none⟩)) ?_ (hK _ _ (Kept.refl _) rfl)
                        clear hl hK
                        generalize a.eval = ρ at *
                        simp [execOp, go_sem, h102, h104, hi3]
                        try (intro h; omega)
                      refine AllSteps.cons (Step.yes 23 true 97 rfl rfl rfl (fun _ _ h => h) fun a w' K hl hK => ?_) ?_
                      · obtain ⟨_, _, _, h105⟩ := hl.dep 31 105 rfl rfl
                        replace h105 : a.eval (.tmp 105) = _ := h105
                        have hcell : w'.cell? ⟨bp, op + i', none⟩ = some (.int .i64 last) := (Below.cell hl.kept hbp).trans HC3.out
                        refine wp_val (.int .i64 last) ?_ (hK _ _ (Kept.refl _) rfl)
                        clear hl hK
                        generalize a.eval = ρ at *
                        simp [execOp, go_sem, h105, hcell]
                      refine AllSteps.cons (Step.yes 23 true 97 rfl rfl rfl (fun _ _ h => h) fun a w' K hl hK => ?_) ?_
                      · obtain ⟨_, _, _, h101⟩ := hl.dep 27 101 rfl rfl
                        replace h101 : a.eval (.tmp 101) = _ := h101
                        obtain ⟨_, _, _, h106⟩ := hl.dep 32 106 rfl rfl
                        replace h106 : a.eval (.tmp 106) = _ := h106
                        refine wp_val (.bool true) ?_ (hK _ _ (Kept.refl _) rfl)
                        clear hl hK
                        generalize a.eval = ρ at *
                        simp [execOp, go_sem, h101, h106, DC1]
                      refine AllSteps.cons (Step.yes 20 false 94 rfl rfl rfl (fun _ _ h => h) fun a w' K hl hK => ?_) ?_
                      · obtain ⟨_, _, _, h97⟩ := hl.dep 23 97 rfl rfl
                        replace h97 : a.eval (.tmp 97) = _ := h97
                        obtain ⟨_, _, _, h107⟩ := hl.dep 33 107 rfl rfl
                        replace h107 : a.eval (.tmp 107) = _ := h107
                        exact wp_pick rfl true h97 (hK _ _ (Kept.refl _) h107)
                      refine AllSteps.cons (Step.plain rfl fun a w' K hl hK => ?_) ?_
                      · obtain ⟨_, _, _, h94⟩ := hl.dep 20 94 rfl rfl
                        replace h94 : a.eval (.tmp 94) = _ := h94
                        obtain ⟨_, _, _, h108⟩ := hl.dep 34 108 rfl rfl
                        replace h108 : a.eval (.tmp 108) = _ := h108
                        exact wp_pick rfl false h94 (hK _ _ (Kept.refl _) h108)
                      exact AllSteps.nil
                    · intro f w19 hk19 hf
                      obtain ⟨_, _, h109⟩ := hf 109 rfl rfl
                      replace h109 : f 109 = .bool true := h109
                      simp only [Exit.then, fill, dsts, List.filterMap_cons, List.filterMap_nil, List.foldl_cons, List.foldl_nil, Act.put, h109, List.setIfInBounds_toArray, List.set_cons_succ, List.set_cons_zero]
                      clear hf h109
                      have hc1 := (Below.cell hk19 (p := ⟨bp, op + i, none⟩) hbp).trans HC1.out
                      have hc2 := (Below.cell hk19 (p := ⟨bt, ot + i, none⟩) hbt).trans HC2.out
                      have hbp19 := Nat.lt_of_lt_of_le hbp hk19.size
                      have hbt19 := Nat.lt_of_lt_of_le hbt hk19.size
                      replace HS := Lib.hid (HS.out.below hk19 HS.out.o4)
                      clear hk19
                      go_wp2_with (first
                          | ((with_reducible show wpList _ _ _ (⟨some 110, _, _, _, _, _⟩ :: _) _ _); refine wpList_build_ino rfl rfl ?_)
                          | ((with_reducible show wpList _ _ _ (⟨none, Op.store 24 (.tmp 8) _, _, _, _, _⟩ :: _) _ _); refine wpList_store_ino rfl _ _ rfl HS.out.r8 zIno_len zIno_len rfl rfl ?_; intro w9 hr9 ho9))
                      (try simp only [Exit.inBlock, Exit.then])
                      refine bodyPost_ret (results_ino3 rfl hr9 zIno_len _ rfl) rfl ?_
                      exact nextR_none HF.out (HS.out.end8 ho9)
                  · have DC1 : ¬ (kn : Int) ≤ last := c1
                    have HG2 : Hid (goP BV (-1) ps ts Y = goP BV (kn : Int) (ps.drop (i + 1)) (ts.drop (i + 1)) (xs.set (5 + kn) tz)) := by
                      show _ = _
                      rw [HGO.out, goP, if_neg (by omega), Int.toNat_natCast]
                    go_wp2_with fail
                    refine wp_region_rely (by kernel_rfl) (fun d u w' => match d with
                      | 74 => u = (.slice (some ⟨bp, op, none⟩) ps.length cp : Value)
                      | 75 => u = (.int .i64 (i : Int) : Value)
                      | 76 => u = (.pointer (some ⟨bp, op + i, none⟩) : Value)
                      | 77 => u = (.int .i64 (kn : Int) : Value)
                      | 78 => u = (.bool false : Value)
                      | 79 => u = (.bool false : Value)
                      | 80 => u = (.slice (some ⟨bp, op, none⟩) ps.length cp : Value)
                      | 81 => u = (.int .i64 (i : Int) : Value)
                      | 82 => u = (.pointer (some ⟨bp, op + i, none⟩) : Value)
                      | 83 => u = (.int .i64 (kn : Int) : Value)
                      | 84 => u = (.int .i64 BV : Value)
                      | 85 => u = (.bool false : Value)
                      | 86 => u = (.bool false : Value)
                      | 87 => u = (.bool false : Value)
                      | 88 => u = (.slice (some ⟨bp, op, none⟩) ps.length cp : Value)
                      | 89 => u = (.int .i64 (i : Int) : Value)
                      | 90 => u = (.pointer (some ⟨bp, op + i, none⟩) : Value)
                      | 91 => u = (.int .i64 (kn : Int) : Value)
                      | 92 => u = (.bool false : Value)
                      | 93 => u = (.bool false : Value)
                      | 94 => u = (.bool false : Value)
                      | 95 => u = (.int .i64 (i : Int) : Value)
                      | 96 => u = (.bool true : Value)
                      | 97 => u = (.bool true : Value)
                      | 98 => u = (.slice (some ⟨bp, op, none⟩) ps.length cp : Value)
                      | 99 => u = (.int .i64 (i : Int) : Value)
                      | 100 => u = (.pointer (some ⟨bp, op + i, none⟩) : Value)
                      | 101 => u = (.int .i64 (kn : Int) : Value)
                      | 102 => u = (.slice (some ⟨bp, op, none⟩) ps.length cp : Value)
                      | 103 => u = (.int .i64 (i : Int) : Value)
                      | 104 => u = (.int .i64 (i' : Int) : Value)
                      | 105 => u = (.pointer (some ⟨bp, op + i', none⟩) : Value)
                      | 106 => u = (.int .i64 last : Value)
                      | 107 => u = (.bool false : Value)
                      | 108 => u = (.bool false : Value)
                      | 109 => u = (.bool false : Value)
                      | _ => True) 156 rfl (by decide +kernel) [109] ?_ ?_
                    · refine AllSteps.cons (Step.move _ rfl rfl fun a w' hl => hl.old 2 rfl) ?_
                      refine AllSteps.cons (Step.move _ rfl rfl fun a w' hl => hl.old 14 rfl) ?_
                      refine AllSteps.cons (Step.plain rfl fun a w' K hl hK => ?_) ?_
                      · obtain ⟨_, _, _, h74⟩ := hl.dep 0 74 rfl rfl
                        replace h74 : a.eval (.tmp 74) = _ := h74
                        obtain ⟨_, _, _, h75⟩ := hl.dep 1 75 rfl rfl
                        replace h75 : a.eval (.tmp 75) = _ := h75
                        refine wp_val (.pointer (some ⟨bp, op + i, none⟩)) ?_ (hK _ _ (Kept.refl _) rfl)
                        clear hl hK
                        generalize a.eval = ρ at *
                        simp [execOp, go_sem, h74, h75, hiI]
                        try (intro h; omega)
                      refine AllSteps.cons (Step.plain rfl fun a w' K hl hK => ?_) ?_
                      · obtain ⟨_, _, _, h76⟩ := hl.dep 2 76 rfl rfl
                        replace h76 : a.eval (.tmp 76) = _ := h76
                        have hcell : w'.cell? ⟨bp, op + i, none⟩ = some (.int .i64 (kn : Int)) := (Below.cell hl.kept hbp).trans HC1.out
                        refine wp_val (.int .i64 (kn : Int)) ?_ (hK _ _ (Kept.refl _) rfl)
                        clear hl hK
                        generalize a.eval = ρ at *
                        simp [execOp, go_sem, h76, hcell]
                      refine AllSteps.cons (Step.plain rfl fun a w' K hl hK => ?_) ?_
                      · obtain ⟨_, _, _, h77⟩ := hl.dep 3 77 rfl rfl
                        replace h77 : a.eval (.tmp 77) = _ := h77
                        have hconst : ∀ x, a.eval (.const x) = x := fun _ => rfl
                        refine wp_val (.bool false) ?_ (hK _ _ (Kept.refl _) rfl)
                        clear hl hK
                        generalize a.eval = ρ at *
                        simp [execOp, go_sem, h77, hconst, DC0]
                      refine AllSteps.cons (Step.move _ rfl rfl fun a w' hl => let ⟨_, _, _, h⟩ := hl.dep 4 78 rfl rfl; h) ?_
                      refine AllSteps.cons (Step.yes 5 false 79 rfl rfl rfl (fun _ _ h => h) fun a w' K hl hK => ?_) ?_
                      · have h2 : a.eval (.tmp 2) = (.slice (some ⟨bp, op, none⟩) ps.length cp : Value) := hl.old 2 rfl
                        exact wp_val (a.eval (.tmp 2)) rfl (hK _ _ (Kept.refl _) h2)
                      refine AllSteps.cons (Step.yes 5 false 79 rfl rfl rfl (fun _ _ h => h) fun a w' K hl hK => ?_) ?_
                      · have h14 : a.eval (.tmp 14) = (.int .i64 (i : Int) : Value) := hl.old 14 rfl
                        exact wp_val (a.eval (.tmp 14)) rfl (hK _ _ (Kept.refl _) h14)
                      refine AllSteps.cons (Step.yes 5 false 79 rfl rfl rfl (fun _ _ h => h) fun a w' K hl hK => ?_) ?_
                      · obtain ⟨_, _, _, h80⟩ := hl.dep 6 80 rfl rfl
                        replace h80 : a.eval (.tmp 80) = _ := h80
                        obtain ⟨_, _, _, h81⟩ := hl.dep 7 81 rfl rfl
                        replace h81 : a.eval (.tmp 81) = _ := h81
                        refine wp_val (.pointer (some ⟨bp, op + i, none⟩)) ?_ (hK _ _ (Kept.refl _) rfl)
                        clear hl hK
                        generalize a.eval = ρ at *
                        simp [execOp, go_sem, h80, h81, hiI]
                        try (intro h; omega)
                      refine AllSteps.cons (Step.yes 5 false 79 rfl rfl rfl (fun _ _ h => h) fun a w' K hl hK => ?_) ?_
                      · obtain ⟨_, _, _, h82⟩ := hl.dep 8 82 rfl rfl
                        replace h82 : a.eval (.tmp 82) = _ := h82
                        have hcell : w'.cell? ⟨bp, op + i, none⟩ = some (.int .i64 (kn : Int)) := (Below.cell hl.kept hbp).trans HC1.out
                        refine wp_val (.int .i64 (kn : Int)) ?_ (hK _ _ (Kept.refl _) rfl)
                        clear hl hK
                        generalize a.eval = ρ at *
                        simp [execOp, go_sem, h82, hcell]
                      refine AllSteps.cons (Step.yes 5 false 79 rfl rfl rfl (fun _ _ h => h) fun a w' K hl hK => ?_) ?_
                      · have h12 : a.eval (.tmp 12) = (.int .i64 BV : Value) := hl.old 12 rfl
                        exact wp_val (a.eval (.tmp 12)) rfl (hK _ _ (Kept.refl _) h12)
                      refine AllSteps.cons (Step.yes 5 false 79 rfl rfl rfl (fun _ _ h => h) fun a w' K hl hK => ?_) ?_
                      · obtain ⟨_, _, _, h83⟩ := hl.dep 9 83 rfl rfl
                        replace h83 : a.eval (.tmp 83) = _ := h83
                        obtain ⟨_, _, _, h84⟩ := hl.dep 10 84 rfl rfl
                        replace h84 : a.eval (.tmp 84) = _ := h84
                        refine wp_val (.bool false) ?_ (hK _ _ (Kept.refl _) rfl)
                        clear hl hK
                        generalize a.eval = ρ at *
                        simp [execOp, go_sem, h83, h84, DC2]
                      refine AllSteps.cons (Step.plain rfl fun a w' K hl hK => ?_) ?_
                      · obtain ⟨_, _, _, h79⟩ := hl.dep 5 79 rfl rfl
                        replace h79 : a.eval (.tmp 79) = _ := h79
                        obtain ⟨_, _, _, h85⟩ := hl.dep 11 85 rfl rfl
                        replace h85 : a.eval (.tmp 85) = _ := h85
                        exact wp_pick rfl false h79 (hK _ _ (Kept.refl _) h85)
                      refine AllSteps.cons (Step.move _ rfl rfl fun a w' hl => let ⟨_, _, _, h⟩ := hl.dep 12 86 rfl rfl; h) ?_
                      refine AllSteps.cons (Step.yes 13 false 87 rfl rfl rfl (fun _ _ h => h) fun a w' K hl hK => ?_) ?_
                      · have h2 : a.eval (.tmp 2) = (.slice (some ⟨bp, op, none⟩) ps.length cp : Value) := hl.old 2 rfl
                        exact wp_val (a.eval (.tmp 2)) rfl (hK _ _ (Kept.refl _) h2)
                      refine AllSteps.cons (Step.yes 13 false 87 rfl rfl rfl (fun _ _ h => h) fun a w' K hl hK => ?_) ?_
                      · have h14 : a.eval (.tmp 14) = (.int .i64 (i : Int) : Value) := hl.old 14 rfl
                        exact wp_val (a.eval (.tmp 14)) rfl (hK _ _ (Kept.refl _) h14)
                      refine AllSteps.cons (Step.yes 13 false 87 rfl rfl rfl (fun _ _ h => h) fun a w' K hl hK => ?_) ?_
                      · obtain ⟨_, _, _, h88⟩ := hl.dep 14 88 rfl rfl
                        replace h88 : a.eval (.tmp 88) = _ := h88
                        obtain ⟨_, _, _, h89⟩ := hl.dep 15 89 rfl rfl
                        replace h89 : a.eval (.tmp 89) = _ := h89
                        refine wp_val (.pointer (some ⟨bp, op + i, none⟩)) ?_ (hK _ _ (Kept.refl _) rfl)
                        clear hl hK
                        generalize a.eval = ρ at *
                        simp [execOp, go_sem, h88, h89, hiI]
                        try (intro h; omega)
                      refine AllSteps.cons (Step.yes 13 false 87 rfl rfl rfl (fun _ _ h => h) fun a w' K hl hK => ?_) ?_
                      · obtain ⟨_, _, _, h90⟩ := hl.dep 16 90 rfl rfl
                        replace h90 : a.eval (.tmp 90) = _ := h90
                        have hcell : w'.cell? ⟨bp, op + i, none⟩ = some (.int .i64 (kn : Int)) := (Below.cell hl.kept hbp).trans HC1.out
                        refine wp_val (.int .i64 (kn : Int)) ?_ (hK _ _ (Kept.refl _) rfl)
                        clear hl hK
                        generalize a.eval = ρ at *
                        simp [execOp, go_sem, h90, hcell]
                      refine AllSteps.cons (Step.yes 13 false 87 rfl rfl rfl (fun _ _ h => h) fun a w' K hl hK => ?_) ?_
                      · obtain ⟨_, _, _, h91⟩ := hl.dep 17 91 rfl rfl
                        replace h91 : a.eval (.tmp 91) = _ := h91
                        have hconst : ∀ x, a.eval (.const x) = x := fun _ => rfl
                        refine wp_val (.bool false) ?_ (hK _ _ (Kept.refl _) rfl)
                        clear hl hK
                        generalize a.eval = ρ at *
                        simp [execOp, go_sem, h91, hconst, DC3]
                      refine AllSteps.cons (Step.plain rfl fun a w' K hl hK => ?_) ?_
                      · obtain ⟨_, _, _, h87⟩ := hl.dep 13 87 rfl rfl
                        replace h87 : a.eval (.tmp 87) = _ := h87
                        obtain ⟨_, _, _, h92⟩ := hl.dep 18 92 rfl rfl
                        replace h92 : a.eval (.tmp 92) = _ := h92
                        exact wp_pick rfl false h87 (hK _ _ (Kept.refl _) h92)
                      refine AllSteps.cons (Step.move _ rfl rfl fun a w' hl => let ⟨_, _, _, h⟩ := hl.dep 19 93 rfl rfl; h) ?_
                      refine AllSteps.cons (Step.yes 20 false 94 rfl rfl rfl (fun _ _ h => h) fun a w' K hl hK => ?_) ?_
                      · have h14 : a.eval (.tmp 14) = (.int .i64 (i : Int) : Value) := hl.old 14 rfl
                        exact wp_val (a.eval (.tmp 14)) rfl (hK _ _ (Kept.refl _) h14)
                      refine AllSteps.cons (Step.yes 20 false 94 rfl rfl rfl (fun _ _ h => h) fun a w' K hl hK => ?_) ?_
                      · obtain ⟨_, _, _, h95⟩ := hl.dep 21 95 rfl rfl
                        replace h95 : a.eval (.tmp 95) = _ := h95
                        have hconst : ∀ x, a.eval (.const x) = x := fun _ => rfl
                        refine wp_val (.bool true) ?_ (hK _ _ (Kept.refl _) rfl)
                        clear hl hK
                        generalize a.eval = ρ at *
                        simp [execOp, go_sem, h95, hconst]
                        omega
                      refine AllSteps.cons (Step.yes 20 false 94 rfl rfl rfl (fun _ _ h => h) fun a w' K hl hK => ?_) ?_
                      · obtain ⟨_, _, _, h96⟩ := hl.dep 22 96 rfl rfl
                        replace h96 : a.eval (.tmp 96) = _ := h96
                        exact wp_val (a.eval (.tmp 96)) rfl (hK _ _ (Kept.refl _) h96)
                      refine AllSteps.cons (Step.yes 23 true 97 rfl rfl rfl (fun _ _ h => h) fun a w' K hl hK => ?_) ?_
                      · have h2 : a.eval (.tmp 2) = (.slice (some ⟨bp, op, none⟩) ps.length cp : Value) := hl.old 2 rfl
                        exact wp_val (a.eval (.tmp 2)) rfl (hK _ _ (Kept.refl _) h2)
                      refine AllSteps.cons (Step.yes 23 true 97 rfl rfl rfl (fun _ _ h => h) fun a w' K hl hK => ?_) ?_
                      · have h14 : a.eval (.tmp 14) = (.int .i64 (i : Int) : Value) := hl.old 14 rfl
                        exact wp_val (a.eval (.tmp 14)) rfl (hK _ _ (Kept.refl _) h14)
                      refine AllSteps.cons (Step.yes 23 true 97 rfl rfl rfl (fun _ _ h => h) fun a w' K hl hK => ?_) ?_
                      · obtain ⟨_, _, _, h98⟩ := hl.dep 24 98 rfl rfl
                        replace h98 : a.eval (.tmp 98) = _ := h98
                        obtain ⟨_, _, _, h99⟩ := hl.dep 25 99 rfl rfl
                        replace h99 : a.eval (.tmp 99) = _ := h99
                        refine wp_val (.pointer (some ⟨bp, op + i, none⟩)) ?_ (hK _ _ (Kept.refl _) rfl)
                        clear hl hK
                        generalize a.eval = ρ at *
                        simp [execOp, go_sem, h98, h99, hiI]
                        try (intro h; omega)
                      refine AllSteps.cons (Step.yes 23 true 97 rfl rfl rfl (fun _ _ h => h) fun a w' K hl hK => ?_) ?_
                      · obtain ⟨_, _, _, h100⟩ := hl.dep 26 100 rfl rfl
                        replace h100 : a.eval (.tmp 100) = _ := h100
                        have hcell : w'.cell? ⟨bp, op + i, none⟩ = some (.int .i64 (kn : Int)) := (Below.cell hl.kept hbp).trans HC1.out
                        refine wp_val (.int .i64 (kn : Int)) ?_ (hK _ _ (Kept.refl _) rfl)
                        clear hl hK
                        generalize a.eval = ρ at *
                        simp [execOp, go_sem, h100, hcell]
                      refine AllSteps.cons (Step.yes 23 true 97 rfl rfl rfl (fun _ _ h => h) fun a w' K hl hK => ?_) ?_
                      · have h2 : a.eval (.tmp 2) = (.slice (some ⟨bp, op, none⟩) ps.length cp : Value) := hl.old 2 rfl
                        exact wp_val (a.eval (.tmp 2)) rfl (hK _ _ (Kept.refl _) h2)
                      refine AllSteps.cons (Step.yes 23 true 97 rfl rfl rfl (fun _ _ h => h) fun a w' K hl hK => ?_) ?_
                      · have h14 : a.eval (.tmp 14) = (.int .i64 (i : Int) : Value) := hl.old 14 rfl
                        exact wp_val (a.eval (.tmp 14)) rfl (hK _ _ (Kept.refl _) h14)
                      refine AllSteps.cons (Step.yes 23 true 97 rfl rfl rfl (fun _ _ h => h) fun a w' K hl hK => ?_) ?_
                      · obtain ⟨_, _, _, h103⟩ := hl.dep 29 103 rfl rfl
                        replace h103 : a.eval (.tmp 103) = _ := h103
                        have hconst : ∀ x, a.eval (.const x) = x := fun _ => rfl
                        refine wp_val (.int .i64 (i' : Int)) ?_ (hK _ _ (Kept.refl _) rfl)
                        clear hl hK
                        generalize a.eval = ρ at *
                        simp [execOp, go_sem, h103, hconst, hw1]
                      refine AllSteps.cons (Step.yes 23 true 97 rfl rfl rfl (fun _ _ h => h) fun a w' K hl hK => ?_) ?_
                      · obtain ⟨_, _, _, h102⟩ := hl.dep 28 102 rfl rfl
                        replace h102 : a.eval (.tmp 102) = _ := h102
                        obtain ⟨_, _, _, h104⟩ := hl.dep 30 104 rfl rfl
                        replace h104 : a.eval (.tmp 104) = _ := h104
                        refine wp_val (.pointer (some ⟨bp, op + i', none⟩)) ?_ (hK _ _ (Kept.refl _) rfl)
                        clear hl hK
                        generalize a.eval = ρ at *
                        simp [execOp, go_sem, h102, h104, hi3]
                        try (intro h; omega)
                      refine AllSteps.cons (Step.yes 23 true 97 rfl rfl rfl (fun _ _ h => h) fun a w' K hl hK => ?_) ?_
                      · obtain ⟨_, _, _, h105⟩ := hl.dep 31 105 rfl rfl
                        replace h105 : a.eval (.tmp 105) = _ := h105
                        have hcell : w'.cell? ⟨bp, op + i', none⟩ = some (.int .i64 last) := (Below.cell hl.kept hbp).trans HC3.out
                        refine wp_val (.int .i64 last) ?_ (hK _ _ (Kept.refl _) rfl)
                        clear hl hK
                        generalize a.eval = ρ at *
                        simp [execOp, go_sem, h105, hcell]
                      refine AllSteps.cons (Step.yes 23 true 97 rfl rfl rfl (fun _ _ h => h) fun a w' K hl hK => ?_) ?_
                      · obtain ⟨_, _, _, h101⟩ := hl.dep 27 101 rfl rfl
                        replace h101 : a.eval (.tmp 101) = _ := h101
                        obtain ⟨_, _, _, h106⟩ := hl.dep 32 106 rfl rfl
                        replace h106 : a.eval (.tmp 106) = _ := h106
                        refine wp_val (.bool false) ?_ (hK _ _ (Kept.refl _) rfl)
                        clear hl hK
                        generalize a.eval = ρ at *
                        simp [execOp, go_sem, h101, h106, DC1]
                      refine AllSteps.cons (Step.yes 20 false 94 rfl rfl rfl (fun _ _ h => h) fun a w' K hl hK => ?_) ?_
                      · obtain ⟨_, _, _, h97⟩ := hl.dep 23 97 rfl rfl
                        replace h97 : a.eval (.tmp 97) = _ := h97
                        obtain ⟨_, _, _, h107⟩ := hl.dep 33 107 rfl rfl
                        replace h107 : a.eval (.tmp 107) = _ := h107
                        exact wp_pick rfl true h97 (hK _ _ (Kept.refl _) h107)
                      refine AllSteps.cons (Step.plain rfl fun a w' K hl hK => ?_) ?_
                      · obtain ⟨_, _, _, h94⟩ := hl.dep 20 94 rfl rfl
                        replace h94 : a.eval (.tmp 94) = _ := h94
                        obtain ⟨_, _, _, h108⟩ := hl.dep 34 108 rfl rfl
                        replace h108 : a.eval (.tmp 108) = _ := h108
                        exact wp_pick rfl false h94 (hK _ _ (Kept.refl _) h108)
                      exact AllSteps.nil
                    · intro f w19 hk19 hf
                      obtain ⟨_, _, h109⟩ := hf 109 rfl rfl
                      replace h109 : f 109 = .bool false := h109
                      simp only [Exit.then, fill, dsts, List.filterMap_cons, List.filterMap_nil, List.foldl_cons, List.foldl_nil, Act.put, h109, List.setIfInBounds_toArray, List.set_cons_succ, List.set_cons_zero]
                      clear hf h109
                      have hc1 := (Below.cell hk19 (p := ⟨bp, op + i, none⟩) hbp).trans HC1.out
                      have hc2 := (Below.cell hk19 (p := ⟨bt, ot + i, none⟩) hbt).trans HC2.out
                      have hbp19 := Nat.lt_of_lt_of_le hbp hk19.size
                      have hbt19 := Nat.lt_of_lt_of_le hbt hk19.size
                      replace HS := Lib.hid (HS.out.below hk19 HS.out.o4)
                      clear hk19
                      go_wp2_with fail
                      refine wp_region_fin _ (Nat.le_refl _) (by kernel_rfl) (fun d u w' => match d with
                        | 111 => u = (.slice (some ⟨bp, op, none⟩) ps.length cp : Value)
                        | 112 => u = (.int .i64 (i : Int) : Value)
                        | 113 => u = (.pointer (some ⟨bp, op + i, none⟩) : Value)
                        | 114 => u = (.int .i64 (kn : Int) : Value)
                        | 115 => u = (.slice (some ⟨bt, ot, none⟩) ts.length ct : Value)
                        | 116 => u = (.int .i64 (i : Int) : Value)
                        | 117 => u = (.pointer (some ⟨bt, ot + i, none⟩) : Value)
                        | 118 => u = (.int .i64 tz : Value)
                        | 119 => u = (.pointer (some ⟨w5.heap.size, 5, none⟩) : Value)
                        | 120 => u = (.pointer (some ⟨w5.heap.size, 5 + kn, none⟩) : Value)
                        | _ => True) 156 rfl (by decide +kernel) [] 10 (by decide +kernel) (fun w w' => IRow w' w5.heap.size (xs.set (5 + kn) tz) ∧ Only w5.heap.size w w' ∧ (xs.set (5 + kn) tz).length = 37) ?_ ?_
                      · refine AllSteps.cons (StepF.of (by decide) (Step.move _ rfl rfl fun a w' hl => hl.old 2 rfl)) ?_
                        refine AllSteps.cons (StepF.of (by decide) (Step.move _ rfl rfl fun a w' hl => hl.old 14 rfl)) ?_
                        refine AllSteps.cons (StepF.of (by decide) (Step.plain rfl fun a w' K hl hK => ?_)) ?_
                        · obtain ⟨_, _, _, h111⟩ := hl.dep 0 111 rfl rfl
                          replace h111 : a.eval (.tmp 111) = _ := h111
                          obtain ⟨_, _, _, h112⟩ := hl.dep 1 112 rfl rfl
                          replace h112 : a.eval (.tmp 112) = _ := h112
                          refine wp_val (.pointer (some ⟨bp, op + i, none⟩)) ?_ (hK _ _ (Kept.refl _) rfl)
                          clear hl hK
                          generalize a.eval = ρ at *
                          simp [execOp, go_sem, h111, h112]
                          try (intro h; omega)
                        refine AllSteps.cons (StepF.of (by decide) (Step.plain rfl fun a w' K hl hK => ?_)) ?_
                        · obtain ⟨_, _, _, h113⟩ := hl.dep 2 113 rfl rfl
                          replace h113 : a.eval (.tmp 113) = _ := h113
                          have hcell : w'.cell? ⟨bp, op + i, none⟩ = some (.int .i64 (kn : Int)) := (Below.cell hl.kept hbp19).trans hc1
                          refine wp_val (.int .i64 (kn : Int)) ?_ (hK _ _ (Kept.refl _) rfl)
                          clear hl hK
                          generalize a.eval = ρ at *
                          simp [execOp, go_sem, h113, hcell]
                        refine AllSteps.cons (StepF.of (by decide) (Step.move _ rfl rfl fun a w' hl => hl.old 3 rfl)) ?_
                        refine AllSteps.cons (StepF.of (by decide) (Step.move _ rfl rfl fun a w' hl => hl.old 14 rfl)) ?_
                        refine AllSteps.cons (StepF.of (by decide) (Step.plain rfl fun a w' K hl hK => ?_)) ?_
                        · obtain ⟨_, _, _, h115⟩ := hl.dep 4 115 rfl rfl
                          replace h115 : a.eval (.tmp 115) = _ := h115
                          obtain ⟨_, _, _, h116⟩ := hl.dep 5 116 rfl rfl
                          replace h116 : a.eval (.tmp 116) = _ := h116
                          refine wp_val (.pointer (some ⟨bt, ot + i, none⟩)) ?_ (hK _ _ (Kept.refl _) rfl)
                          clear hl hK
                          generalize a.eval = ρ at *
                          simp [execOp, go_sem, h115, h116]
                          try (intro h; omega)
                        refine AllSteps.cons (StepF.of (by decide) (Step.plain rfl fun a w' K hl hK => ?_)) ?_
                        · obtain ⟨_, _, _, h117⟩ := hl.dep 6 117 rfl rfl
                          replace h117 : a.eval (.tmp 117) = _ := h117
                          have hcell : w'.cell? ⟨bt, ot + i, none⟩ = some (.int .i64 tz) := (Below.cell hl.kept hbt19).trans hc2
                          refine wp_val (.int .i64 tz) ?_ (hK _ _ (Kept.refl _) rfl)
                          clear hl hK
                          generalize a.eval = ρ at *
                          simp [execOp, go_sem, h117, hcell]
                        refine AllSteps.cons (StepF.of (by decide) (Step.plain rfl fun a w' K hl hK => ?_)) ?_
                        · have h11 : a.eval (.tmp 11) = (.pointer (some ⟨w5.heap.size, 0, none⟩) : Value) := hl.old 11 rfl
                          refine wp_val (.pointer (some ⟨w5.heap.size, 5, none⟩)) ?_ (hK _ _ (Kept.refl _) rfl)
                          clear hl hK
                          generalize a.eval = ρ at *
                          simp [execOp, go_sem, h11]
                        refine AllSteps.cons (StepF.of (by decide) (Step.plain rfl fun a w' K hl hK => ?_)) ?_
                        · obtain ⟨_, _, _, h114⟩ := hl.dep 3 114 rfl rfl
                          replace h114 : a.eval (.tmp 114) = _ := h114
                          obtain ⟨_, _, _, h119⟩ := hl.dep 8 119 rfl rfl
                          replace h119 : a.eval (.tmp 119) = _ := h119
                          refine wp_val (.pointer (some ⟨w5.heap.size, 5 + kn, none⟩)) ?_ (hK _ _ (Kept.refl _) rfl)
                          clear hl hK
                          generalize a.eval = ρ at *
                          simp [execOp, go_sem, h114, h119]
                          all_goals (try intro h)
                          all_goals (try omega)
                        refine AllSteps.cons (StepF.fin rfl fun a w' K hl hK => ?_) ?_
                        · obtain ⟨_, _, _, h118⟩ := hl.dep 7 118 rfl rfl
                          replace h118 : a.eval (.tmp 118) = _ := h118
                          obtain ⟨_, _, _, h120⟩ := hl.dep 9 120 rfl rfl
                          replace h120 : a.eval (.tmp 120) = _ := h120
                          exact wp_store_num 3 rfl (by kernel_rfl) ((HS.out.below hl.kept HS.out.o4).r11) HL.out (5 + kn) tz (by omega) h120 h118 (fun w2 h1 h2 h3 => hK w2 ⟨h1, h2, h3⟩)
                        exact AllSteps.nil
                      · intro f w20 w21 hk20 hf hR
                        simp only [fill, dsts, List.filterMap_cons, List.filterMap_nil, List.foldl_cons, List.foldl_nil, Act.put, List.setIfInBounds_toArray, List.set_cons_succ, List.set_cons_zero]
                        clear hf
                        obtain ⟨hr9, ho9, hl9⟩ := hR
                        replace HS := Lib.hid (HS.out.below hk20 HS.out.o4)
                        clear hk20
                        go_wp2_with fail
                        go_roundw
                        case measure => simp [intOf]; omega
                        case rel => exact ⟨i + 1, by omega, by simp, (kn : Int), _, fun h => by omega, fun i2 h => by (have : i2 = i := by omega); subst this; exact HKZ.out, by omega, hl9, HG2.out, HS.out.on11 hr9 ho9⟩
        · have hie : i = ps.length := by omega
          have hge2 : (ps.length : Int) ≤ (i : Int) := by omega
          have HX : Hid (goP BV (-1) ps ts Y = some xs) := by
            show _ = _
            rw [hgo, hie, List.drop_of_length_le (Nat.le_refl _)]
            simp [goP]
          have HCX := Lib.hid (rcheckL HL.out)
          clear hgo hie hla hlb
          cases hchk : chkL xs
          · have HF : Hid (nextM old now ps ts = none) := by show _ = _; rw [HM.out, HX.out]; simp [hchk]
            rw [hchk] at HCX
            clear hchk
            go_wp2_with (first
              | ((with_reducible show wpList _ _ _ (⟨some 121, _, _, _, _, _⟩ :: _) _ _); refine wpList_load_ino rfl _ rfl HS.out.r11 HL.out rfl ?_)
              | (go_at_call 13; refine (HCX.out _).mono ?_; rintro e w10 ⟨rfl, hb10⟩; replace HS := Lib.hid (HS.out.below hb10 HS.out.o4); clear hb10)
              | ((with_reducible show wpList _ _ _ (⟨some 124, _, _, _, _, _⟩ :: _) _ _); refine wpList_build_ino rfl rfl ?_)
              | ((with_reducible show wpList _ _ _ (⟨none, Op.store 24 (.tmp 8) _, _, _, _, _⟩ :: _) _ _); refine wpList_store_ino rfl _ _ rfl HS.out.r8 zIno_len zIno_len rfl rfl ?_; intro w9 hr9 ho9))
            (try simp only [Exit.inBlock, Exit.then])
            refine bodyPost_ret (results_ino3 rfl hr9 zIno_len _ rfl) rfl ?_
            exact nextR_none HF.out (HS.out.end8 ho9)
          · have HF : Hid (nextM old now ps ts = some (xs, goneL old xs)) := by show _ = _; rw [HM.out, HX.out]; simp [hchk]
            rw [hchk] at HCX
            clear hchk
            go_wp2_with (first
              | ((with_reducible show wpList _ _ _ (⟨some 121, _, _, _, _, _⟩ :: _) _ _); refine wpList_load_ino rfl _ rfl HS.out.r11 HL.out rfl ?_)
              | (go_at_call 13; refine (HCX.out _).mono ?_; rintro e w11 ⟨rfl, hb11⟩; replace HS := Lib.hid (HS.out.below hb11 HS.out.o4); clear hb11))
            obtain ⟨i0, hi0, hz0, hz1, hz2⟩ := info_parts infoI
            obtain ⟨QO, hQO⟩ : ∃ QO, QO = old.drop 5 := ⟨_, rfl⟩
            obtain ⟨P, hP⟩ : ∃ P, P = xs.drop 5 := ⟨_, rfl⟩
            have HQL : Hid (QO.length = 32) := by show _ = _; rw [hQO, List.length_drop, HO.out]
            have HPL : Hid (P.length = 32) := by show _ = _; rw [hP, List.length_drop, HL.out]
            have HQA : Hid (∀ (k : Nat) (q : Int), QO[k]? = some q → old[5 + k]? = some q) := fun k q hq => by rw [hQO, List.getElem?_drop] at hq; exact hq
            have HPA : Hid (∀ (k : Nat) (q : Int), P[k]? = some q → xs[5 + k]? = some q) := fun k q hq => by rw [hP, List.getElem?_drop] at hq; exact hq
            have HGN : Hid (∀ (k : Nat) (q : Int), QO[k]? = some q → ((QO.take (k + 1)).filter fun p => !(p == 0) && !(P.contains p)) = ((QO.take k).filter fun p => !(p == 0) && !(P.contains p)) ++ (if q = 0 then [] else if P.contains q then [] else [q])) := by
              rw [hQO, hP]
              exact fun k q hq => gone_next hq
            have HGE : Hid ((QO.filter fun p => !(p == 0) && !(P.contains p)) = goneL old xs) := by rw [hQO, hP]; rfl
            obtain ⟨B9, hB9⟩ : ∃ B9, B9 = w11.heap.size := ⟨_, rfl⟩
            have HB9 := Lib.hid hB9
            have hb11B : w5.heap.size < B9 := by rw [hB9]; exact HS.out.o4
            clear hQO hP hB9
            go_loopw [16, 15] (fun j b wr => ∃ k : Nat, k ≤ 32 ∧ j = .int .i64 (k : Int) ∧ ∃ G : List Int, G = ((QO.take k).filter fun p => !(p == 0) && !(P.contains p)) ∧ G.length ≤ k ∧ wr.ownsRow B9 3 1 b G.length (G.map (Value.int .i64)) ∧ B9 ≤ wr.heap.size ∧ SR w wr w.heap.size w1.heap.size w2.heap.size w5.heap.size old now xs) (fun j _ _ => 32 - (intOf j).toNat)
            case atStart => exact ⟨0, by omega, rfl, [], rfl, Nat.le_refl _, World.ownsRow_nil _ _ _ _, by rw [HB9.out]; exact Nat.le_refl _, HS.out⟩
            case round =>
              obtain ⟨k4, hk4, rfl, G, hG, hGl, hown, hB9w, hs⟩ := hrel
              obtain ⟨A9, c9, rfl, _⟩ := (show Mine wr B9 3 1 _ G.length (G.map (Value.int .i64)) from .inr hown).form
              have HOWN := Lib.hid hown
              replace HS := Lib.hid hs
              have HG := Lib.hid hG
              clear hown hs hG
              by_cases hlt4 : k4 < 32
              · have hltI4 : (k4 : Int) < 32 := by omega
                obtain ⟨q, hq⟩ : ∃ q, QO[k4]? = some q := ⟨_, List.getElem?_eq_getElem (by rw [HQL.out]; exact hlt4)⟩
                have HGX := Lib.hid (HGN.out k4 q hq)
                rw [← HG.out] at HGX
                have HQQ := Lib.hid (HQA.out k4 q hq)
                clear hq
                go_wp2_with ((with_reducible show wpList _ _ _ (⟨some 132, _, _, _, _, _⟩ :: _) _ _); refine wpList_load_num rfl _ _ rfl Try.underlying3 HS.out.r4 (5 + k4) _ HQQ.out rfl ?_)
                go_loopw [19, 18] (fun j b wr' => ∃ m : Nat, m ≤ 32 ∧ j = .int .i64 (m : Int) ∧ b = .bool ((q == 0) || (P.take m).contains q) ∧ wr = wr') (fun j _ _ => 32 - (intOf j).toNat)
                case atStart => exact ⟨0, by omega, rfl, by simp, rfl⟩
                case round =>
                  obtain ⟨m, hm, rfl, rfl, rfl⟩ := hrel
                  by_cases hlt5 : m < 32
                  · have hltI5 : (m : Int) < 32 := by omega
                    obtain ⟨p, hp⟩ : ∃ p, P[m]? = some p := ⟨_, List.getElem?_eq_getElem (by rw [HPL.out]; exact hlt5)⟩
                    have HPP := Lib.hid (HPA.out m p hp)
                    have HT1 : Hid (((q == 0) || (P.take (m + 1)).contains q) = (((q == 0) || (P.take m).contains q) || p == q)) := by
                      show _ = _
                      rw [seen_next hp, beq_swap q p, ← Bool.or_assoc]
                    clear hp
                    generalize ((q == 0) || (P.take m).contains q) = inb at *
                    cases inb
                    · go_wp2_with ((with_reducible show wpList _ _ _ (⟨some 144, _, _, _, _, _⟩ :: _) _ _); refine wpList_load_num rfl _ _ rfl Try.underlying3 HS.out.r11 (5 + m) _ HPP.out rfl ?_)
                      go_roundw
                      case measure => simp [intOf]; omega
                      case rel => exact ⟨m + 1, by omega, by simp, by rw [HT1.out]; simp, by trivial⟩
                    · go_wp2
                      go_roundw
                      case measure => simp [intOf]; omega
                      case rel => exact ⟨m + 1, by omega, by simp, by rw [HT1.out]; simp, by trivial⟩
                  · have hge5 : (32 : Int) ≤ (m : Int) := by omega
                    have hPm : P.take m = P := List.take_of_length_le (by rw [HPL.out]; omega)
                    rw [hPm]
                    clear hPm
                    by_cases h0 : q = 0
                    · have hinb : ((q == 0) || P.contains q) = true := by simp [h0]
                      rw [if_pos h0, List.append_nil] at HGX
                      rw [hinb]
                      clear h0 hinb
                      go_wp2
                      go_roundw
                      case measure => simp [intOf]; omega
                      case rel => exact ⟨k4 + 1, by omega, by simp, G, HGX.out.symm, by omega, HOWN.out, hB9w, HS.out⟩
                    · rw [if_neg h0] at HGX
                      cases hcon : P.contains q
                      · have hinb : ((q == 0) || false) = false := by simp [h0]
                        rw [hcon] at HGX
                        rw [hinb]
                        clear h0 hinb hcon
                        go_wp2_with (at_builtin; refine wpList_append_mine rfl (.tmp 150) (.tmp 152) _ _ rfl B9 3 i0 (.int .i64 0) 1 8 hz1 hz2 rfl (by decide) _ _ _ rfl (Mine.alloc (.inr HOWN.out) _) _ 1 [.int .i64 q] rfl (Gives.elem Try.underlying25 hi0 hz0 hz1 _ rfl) (by simp only [maxLen]; omega) (by omega) (by simp; omega) ?_; intro A2 c2 w12 hm12 hg12 hb12 hat12 hown12)
                        go_roundw
                        case measure => simp [intOf]; omega
                        case rel =>
                          have hbb : Below B9 wr w12 := ((Below.refl _ wr).alloc hB9w _).trans hb12
                          have e : G.map (Value.int .i64) ++ [.int .i64 q] = (G ++ [q]).map (Value.int .i64) := by simp
                          rw [e] at hown12
                          exact ⟨k4 + 1, by omega, by simp, G ++ [q], HGX.out.symm, by simp; omega, by rw [List.length_append]; exact hown12 (.inl (by decide)), Nat.le_trans hB9w hbb.size, HS.out.below hbb hb11B⟩
                      · have hinb : ((q == 0) || true) = true := by simp
                        rw [hcon] at HGX
                        rw [hinb]
                        have HGX2 : Hid (((QO.take (k4 + 1)).filter fun p => !(p == 0) && !(P.contains p)) = G) := by
                          have := HGX.out
                          rw [if_pos rfl, List.append_nil] at this
                          exact this
                        clear h0 hinb hcon
                        go_wp2
                        go_roundw
                        case measure => simp [intOf]; omega
                        case rel => exact ⟨k4 + 1, by omega, by simp, G, HGX2.out.symm, by omega, HOWN.out, hB9w, HS.out⟩
              · have hge4 : (32 : Int) ≤ (k4 : Int) := by omega
                have hGe : Hid (G = goneL old xs) := by
                  show _ = _
                  rw [← HGE.out, HG.out, List.take_of_length_le (by rw [HQL.out]; omega)]
                go_wp2_with (first
                  | ((with_reducible show wpList _ _ _ (⟨some 154, _, _, _, _, _⟩ :: _) _ _); refine wpList_load_ino rfl _ rfl HS.out.r11 HL.out rfl ?_)
                  | ((with_reducible show wpList _ _ _ (⟨none, Op.store 24 (.tmp 8) _, _, _, _, _⟩ :: _) _ _); refine wpList_store_ino rfl _ _ rfl HS.out.r8 zIno_len HL.out rfl rfl ?_; intro w13 hr13 ho13))
                (try simp only [Exit.inBlock, Exit.then])
                refine bodyPost_ret (results_ino3 rfl hr13 HL.out _ rfl) rfl ?_
                have ho := own_only HOWN.out ho13 (show w2.heap.size < B9 by have := HS.out.o3; omega)
                have hsl := ho
                rw [hGe.out] at hsl
                exact nextR_some HF.out (by rw [← hGe.out]) hsl (show w.heap.size ≤ B9 by have := HS.out.o1; have := HS.out.o2; have := HS.out.o3; omega) (HS.out.end8 ho13)
end Go.Proofs.Ytgfhepfikphliaa.Al
