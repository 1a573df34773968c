/-
  'AllocKeeps' walked: blocks of a file that are not written stay where they are; those that are gone, and those that are there, are all there were, and came.
-/
import Derived.Test.YtgfhepfikphliaaKeep6
namespace Go.Proofs.Ytgfhepfikphliaa.Al
open Go.RowKit Wd In
set_option linter.unusedVariables false

set_option maxRecDepth 100000 in
set_option maxHeartbeats 800000 in
theorem keeps_bad (old : List Int) (size : Int) (Aw : Option Addr) (nw cw : Nat) (w : World) (hold : old.length = 37) (hc : chkL old = false) :
    Calls Try.prog 4 #[.agg (ints old), .int .i64 size, .slice Aw nw cw] w fun e w' => e = .returned (.bool true) ∧ Below w.heap.size w w' := by
  have HO := Lib.hid hold
  have HCK := Lib.hid (rcheckL hold)
  rw [hc] at HCK
  clear hold hc
  go_enter Try.func4, Try.ntmps4
  go_wp2_with (first
    | ((with_reducible show wpList _ _ _ (⟨some 3, _, _, _, _, _⟩ :: _) _ _); refine wpList_box_ino rfl _ rfl HO.out rfl ?_; intro w1 hr1 hb1 hlt1)
    | ((with_reducible show wpList _ _ _ (⟨some 21, _, _, _, _, _⟩ :: _) _ _); refine wpList_load_ino rfl _ rfl hr1 HO.out rfl ?_)
    | (go_at_call 13; refine (HCK.out _).mono ?_; rintro e w3 ⟨rfl, hb3⟩)
    | (go_at_call 8; refine (awake_any _).mono ?_; rintro e w7 ⟨rfl, hb7⟩))
  go_ret
  exact ⟨rfl, (hb1.trans (hb3.mono hb1.size)).trans (hb7.mono (Nat.le_trans hb1.size hb3.size))⟩

set_option maxRecDepth 100000 in
set_option maxHeartbeats 800000 in
theorem keeps_other (old : List Int) (size : Int) (Aw : Option Addr) (nw cw : Nat) (w : World) (hold : old.length = 37) (hc : chkL old = true) (q0 : Int) (hq0 : old[0]? = some q0) (hq : ¬ q0 = 1) :
    Calls Try.prog 4 #[.agg (ints old), .int .i64 size, .slice Aw nw cw] w fun e w' => e = .returned (.bool true) ∧ Below w.heap.size w w' := by
  have HO := Lib.hid hold
  have HCK := Lib.hid (rcheckL hold)
  have HQ0 := Lib.hid hq0
  have hqb : (q0 != 1) = true := by simpa using hq
  rw [hc] at HCK
  clear hold hc hq0 hq
  go_enter Try.func4, Try.ntmps4
  go_wp2_with (first
    | ((with_reducible show wpList _ _ _ (⟨some 3, _, _, _, _, _⟩ :: _) _ _); refine wpList_box_ino rfl _ rfl HO.out rfl ?_; intro w1 hr1 hb1 hlt1)
    | ((with_reducible show wpList _ _ _ (⟨some 21, _, _, _, _, _⟩ :: _) _ _); refine wpList_load_ino rfl _ rfl hr1 HO.out rfl ?_)
    | (go_at_call 13; refine (HCK.out _).mono ?_; rintro e w3 ⟨rfl, hb3⟩; have HR := Lib.hid (hr1.below hb3 hlt1))
    | ((with_reducible show wpList _ _ _ (⟨some 26, _, _, _, _, _⟩ :: _) _ _); refine wpList_load_num rfl _ _ rfl Try.underlying3 HR.out 0 _ HQ0.out rfl ?_)
    | (go_at_call 8; refine (awake_any _).mono ?_; rintro e w7 ⟨rfl, hb7⟩))
  go_ret
  exact ⟨rfl, (hb1.trans (hb3.mono hb1.size)).trans (hb7.mono (Nat.le_trans hb1.size hb3.size))⟩

set_option maxRecDepth 100000 in
set_option maxHeartbeats 6400000 in
theorem keeps_main (old : List Int) (size : Int) (Aw : Option Addr) (ws : List Bool) (cw : Nat) (w : World) (hold : old.length = 37) (hs1 : -9223372036854775808 ≤ size) (hs2 : size ≤ 9223372036854775807)
    (hws : Sl w w.heap.size 1 Aw ws.length (ws.map Value.bool)) (hbig : ws.length ≤ 140737488355328) (hc : chkL old = true) (hq0 : old[0]? = some 1) :
    Calls Try.prog 4 #[.agg (ints old), .int .i64 size, .slice Aw ws.length cw] w fun e w' => e = .returned (.bool true) ∧ Below w.heap.size w w' := by
  obtain ⟨i0, hi0, hz0, hz1, hz2⟩ := info_parts infoI
  have hg0 : old.getD 0 0 = 1 := by rw [List.getD_eq_getElem?_getD, hq0]; rfl
  have PN := Lib.hid (fun w => Pl.place_any size 4097 w (by omega) (by omega) hs1 hs2)
  obtain ⟨p0, p1⟩ := Pl.place_bd size 4097 (by omega)
  generalize Pl.placeZ size 4097 = sz at *
  obtain ⟨n, hn⟩ : ∃ n : Nat, (n : Int) = blocksN sz := Int.eq_ofNat_of_zero_le (blocksN_bd sz (by omega)).1 |>.imp fun _ h => h.symm
  have hn2 : (sz + 128 - 1) / 128 = (n : Int) := by rw [hn]; unfold blocksN; split <;> omega
  have hn32 : n ≤ 32 := by omega
  obtain ⟨wh, hwh⟩ : ∃ wh : Nat → Bool, wh = fun k => ws.getD k false := ⟨_, rfl⟩
  have HW0 : Hid (∀ k : Nat, ws.length ≤ k → wh k = false) := Lib.hid fun k hk => by rw [hwh]; simp [List.getD_eq_getElem?_getD, List.getElem?_eq_none hk]
  have HW1 : Hid (∀ (k : Nat) (b : Bool), ws[k]? = some b → wh k = b) := Lib.hid fun k b hk => by rw [hwh]; simp [List.getD_eq_getElem?_getD, hk]
  have hnext := next_keeps (wh := wh) (sz := sz) (n := n) hold hc hg0 ⟨p0, by omega⟩ hn hn32
  have hXl := nextX_len (wh := wh) (sz := sz) (n := n) hold
  have hXh := nextX_hd (wh := wh) (sz := sz) (n := n) hold hg0
  have hXa := nextX_at (wh := wh) (sz := sz) hold hg0 hn hn32
  have hnowl := nowL_len (sz := sz) hold
  have hchk := hc
  obtain ⟨now, hnow⟩ : ∃ now, now = nowL old sz := ⟨_, rfl⟩
  have hset : old.set 1 sz = now := hnow.symm
  rw [← hnow] at hnext hXh hnowl
  obtain ⟨X, hX⟩ : ∃ X, X = nextX old wh sz n := ⟨_, rfl⟩
  rw [← hX] at hnext hXl hXh hXa
  obtain ⟨G, hG⟩ : ∃ G, G = goneL old X := ⟨_, rfl⟩
  rw [← hG] at hnext
  have hbd := chk_ptrs hold hc
  have hnb : ∀ x ∈ now, -9223372036854775808 ≤ x ∧ x ≤ 9223372036854775807 := by
    obtain ⟨k0, s0, l0, o0, n0, ps, he, hps⟩ := five hold
    rw [he] at hc
    have hb := chk_bd hps hc
    intro x hx
    rw [hnow, nowL, he] at hx
    simp only [List.set_cons_succ, List.set_cons_zero, List.mem_cons] at hx
    rcases hx with rfl | rfl | rfl | rfl | rfl | hx
    · omega
    · omega
    · omega
    · omega
    · omega
    · obtain ⟨j, hj⟩ := List.getElem?_of_mem hx
      have := hb.2.2.2.2.2 j x hj
      omega
  have hat : ∀ i : Nat, i < 5 → X[i]? = now[i]? := fun i hi => by
    have := congrArg (fun l : List Int => l[i]?) hXh
    simpa [hi] using this
  have hna : ∀ i : Nat, i ≠ 1 → now[i]? = old[i]? := fun i hi => by rw [hnow, nowL, List.getElem?_set_ne (by omega)]
  obtain ⟨q2, hq2⟩ : ∃ q, old[2]? = some q := ⟨_, List.getElem?_eq_getElem (by omega)⟩
  obtain ⟨q4, hq4⟩ : ∃ q, old[4]? = some q := ⟨_, List.getElem?_eq_getElem (by omega)⟩
  have HN1 : Hid (now[1]? = some sz) := Lib.hid (by rw [hnow, nowL, List.getElem?_set_self (by omega)])
  have HX1 : Hid (X[1]? = some sz) := Lib.hid (by rw [hat 1 (by omega), HN1.out])
  have HX2 : Hid (X[2]? = some q2) := Lib.hid (by rw [hat 2 (by omega), hna 2 (by omega), hq2])
  have HX4 : Hid (X[4]? = some q4) := Lib.hid (by rw [hat 4 (by omega), hna 4 (by omega), hq4])
  have HXK : Hid (∀ k : Nat, k < 32 → X[5 + k]? = some (wantQ old wh n k)) := Lib.hid fun k hk => by
    rw [← hXa k hk, List.getD_eq_getElem?_getD, List.getElem?_eq_getElem (by omega)]
    rfl
  have HWF : Hid (∀ (k : Nat) (v0 q : Int), old[5 + k]? = some q → (v0 = if k < n then q else 0) → wfT (pkS old wh n).1 (pkS old wh n).2.1 (k : Int) v0 (pkS old wh n).1.length = wantQ old wh n k) := Lib.hid fun k v0 q hq hv => by
    rw [wfT_is, wantQ, hv]
    have e : old.getD (5 + k) 0 = q := by rw [List.getD_eq_getElem?_getD, hq]; rfl
    rw [e]
  have HNX : Hid (∀ (A1 A2 : Option Addr) (c1 c2 : Nat) (w' : World), Sl w' w'.heap.size 1 A1 (pkS old wh n).1.length ((pkS old wh n).1.map (Value.int .i64)) → Sl w' w'.heap.size 1 A2 (pkS old wh n).2.1.length ((pkS old wh n).2.1.map (Value.int .i64)) →
      Calls Try.prog 9 #[.agg (ints old), .agg (ints now), .slice A1 (pkS old wh n).1.length c1, .slice A2 (pkS old wh n).2.1.length c2] w' fun e w'' => ∃ A c, e = .returned (.tuple #[.agg (ints X), .slice A G.length c, .bool true]) ∧ Sl w'' w''.heap.size 1 A G.length (G.map (Value.int .i64)) ∧ Below w'.heap.size w' w'') := Lib.hid fun A1 A2 c1 c2 w' h1 h2 => by
    refine (next_any old now _ _ A1 A2 c1 c2 w' hold hnowl hnb h1 h2 (by have := (pk_len old wh n).2; omega)).mono fun e w'' h => ?_
    rw [hnext] at h
    obtain ⟨A, c, h3, h4, h5⟩ := h
    exact ⟨A, c, h3, Sl.own h4, h5⟩
  have HSET := Lib.hid hset
  obtain ⟨f, hf⟩ : ∃ f : Int → Bool, f = fun p => !(p == 0) && !(hasP X p) := ⟨_, rfl⟩
  have hGf : G = (old.drop 5).filter f := by
    rw [hG, goneL, hf]
    congr 1
    funext p
    exact gone_is hXl p
  obtain ⟨cnt, hcnt⟩ : ∃ cnt : Nat → Nat, cnt = fun k => (((old.drop 5).take k).filter f).length := ⟨_, rfl⟩
  have HF0 : Hid (f 0 = false) := Lib.hid (by rw [hf]; rfl)
  have HF1 : Hid (∀ q : Int, ¬ q = 0 → f q = !(hasP X q)) := Lib.hid fun q hq => by
    rw [hf]
    have : (q == 0) = false := by simpa using hq
    simp only
    rw [this]
    rfl
  have HC0 : Hid (cnt 0 = 0) := Lib.hid (by rw [hcnt]; rfl)
  have HCL : Hid (∀ k, cnt k ≤ k) := Lib.hid fun k => by
    rw [hcnt]
    refine Nat.le_trans (List.length_filter_le _ _) ?_
    rw [List.length_take]
    omega
  have HCS : Hid (∀ (k : Nat) (q : Int), old[5 + k]? = some q → cnt (k + 1) = cnt k + if f q = true then 1 else 0) := Lib.hid fun k q hq => by
    rw [hcnt]
    exact filter_step f (by rw [List.getElem?_drop]; exact hq)
  have HCG : Hid (∀ (k : Nat) (q : Int), old[5 + k]? = some q → f q = true → G[cnt k]? = some q) := Lib.hid fun k q hq hfq => by
    rw [hGf, hcnt]
    exact filter_at f _ k q (by rw [List.getElem?_drop]; exact hq) hfq
  have HCE : Hid (cnt 32 = G.length) := Lib.hid (by
    rw [hcnt, hGf]
    simp only
    rw [List.take_of_length_le (by rw [List.length_drop, hold]; decide)])
  have hG37 : G.length ≤ 32 := by have := HCE.out; have := HCL.out 32; omega
  have HAS : Hid (∀ (xs : List Int) (b : Int) (w' : World), xs.length = 37 → Calls Try.prog 15 #[.agg (ints xs), .int .i64 b] w' fun e w'' => e = .returned (.bool (hasP xs b)) ∧ Below w'.heap.size w' w'') := Lib.hid fun xs b w' hl => has_any xs b w' hl
  have HO := Lib.hid hold
  have HCK := Lib.hid (rcheckL hold)
  rw [hchk] at HCK
  have HXL := Lib.hid hXl
  have HNL := Lib.hid hnowl
  have HQ0 := Lib.hid hq0
  have HQ2 := Lib.hid hq2
  have HQ4 := Lib.hid hq4
  have HWS := Lib.hid hws
  have HTK : Hid (∀ k : Nat, wh k = true → (pkS old wh k).2.2 ≤ tkn old wh k ∧ hasP old (tkn old wh k) = false ∧ ∀ b, (pkS old wh k).2.2 ≤ b → b < tkn old wh k → hasP old b = true) := Lib.hid fun k hk => by
    obtain ⟨a1, a2, a3, a4⟩ := nx_spec hold (pkS old wh k).2.2
    exact ⟨a2, a1, a4⟩
  have HPN : Hid (∀ k : Nat, 74 ≤ (pkS old wh k).2.2 ∧ (pkS old wh k).2.2 ≤ 74 + k + 32) := Lib.hid fun k => ⟨(pk_ts hold wh k).1, pk_next hold wh k⟩
  clear hold hs1 hs2 hws hc hchk hq0 hg0 hn hwh hnext hXl hXh hXa hnowl hnow hset hX hG hbd hnb hat hna hq2 hq4 hf hGf hcnt
  go_enter Try.func4, Try.ntmps4
  go_wp2_with (first
    | ((with_reducible show wpList _ _ _ (⟨some 3, _, _, _, _, _⟩ :: _) _ _); refine wpList_box_ino rfl _ rfl HO.out rfl ?_; intro w1 hr1 hb1 hlt1)
    | ((with_reducible show wpList _ _ _ (⟨some 21, _, _, _, _, _⟩ :: _) _ _); refine wpList_load_ino rfl _ rfl hr1 HO.out rfl ?_)
    | (go_at_call 13; refine (HCK.out _).mono ?_; rintro e w3 ⟨rfl, hb3⟩; have hr3 := hr1.below hb3 hlt1; have hb13 := hb1.trans (hb3.mono hb1.size); have hlt3 := Nat.lt_of_lt_of_le hlt1 hb3.size; clear hr1 hb1)
    | ((with_reducible show wpList _ _ _ (⟨some 26, _, _, _, _, _⟩ :: _) _ _); refine wpList_load_num rfl _ _ rfl Try.underlying3 hr3 0 _ HQ0.out rfl ?_)
    | ((with_reducible show wpList _ _ _ (⟨some 30, _, _, _, _, _⟩ :: _) _ _); refine wpList_load_ino rfl _ rfl hr3 HO.out rfl ?_)
    | ((with_reducible show wpList _ _ _ (⟨some 7, _, _, _, _, _⟩ :: _) _ _); refine wpList_alloc_ino rfl rfl ?_; intro w4 hr4 hb4 hlt4; have hr34 := hr3.below hb4 hlt3)
    | ((with_reducible show wpList _ _ _ (⟨none, Op.store 24 (.tmp 7) _, _, _, _, _⟩ :: _) _ _); refine wpList_store_ino rfl _ _ rfl hr4 zIno_len HO.out rfl rfl ?_; intro w5 hr5 ho5)
    | (go_at_call 14; refine (PN.out _).mono ?_; rintro e w6 ⟨rfl, rfl⟩)
    | ((with_reducible show wpList _ _ _ (⟨none, Op.store 3 (.tmp 33) _, _, _, _, _⟩ :: _) _ _); refine wpList_store_num rfl _ _ _ rfl Try.underlying3 (by kernel_rfl) hr5 HO.out 1 sz (by decide) rfl rfl ?_; intro w7 hr7 ho7 hl7; rw [HSET.out] at hr7)
    | ((with_reducible show wpList _ _ _ (⟨some 35, _, _, _, _, _⟩ :: _) _ _); refine wpList_load_num rfl _ _ rfl Try.underlying3 hr7 1 _ HN1.out rfl ?_))

  obtain ⟨b3, hb3e⟩ : ∃ b3, b3 = w.heap.size := ⟨_, rfl⟩
  obtain ⟨b7, hb7e⟩ : ∃ b7, b7 = w3.heap.size := ⟨_, rfl⟩
  have HK : Hid (K2 w w7 b3 b7 old now) := Lib.hid (by
    rw [hb3e, hb7e]
    exact ⟨(hr34.only ho5 (by omega)).only ho7 (by omega), hr7, ho7.below (ho5.below (hb13.trans (hb4.mono hb13.size)) hb13.size) hb13.size, Nat.le_refl _, hlt3, by have := ho5.size; have := ho7.size; omega⟩)
  rw [← hb3e, ← hb7e]
  clear hr3 hr4 hr34 hr5 hr7 ho5 ho7 hl7 hb13 hb4 hlt1 hlt3 hlt4 hb3 hb3e hb7e
  obtain ⟨B, hB⟩ : ∃ B, B = w7.heap.size := ⟨_, rfl⟩
  have hBB : b7 < B := by rw [hB]; exact HK.out.o2
  have hBw : B ≤ w7.heap.size := Nat.le_of_eq hB
  clear hB
  have HW : Hid (∀ w', K2 w w' b3 b7 old now → Sl w' w'.heap.size 1 Aw ws.length (ws.map Value.bool)) := Lib.hid fun w' h => HWS.out.on (Nat.le_refl _) h.bel
  clear HWS
  rw [hn2]
  clear hn2
  go_loopw [12, 9, 10, 11] (fun iv pv tv nv wr => ∃ (k : Nat) (cur : Int), k ≤ n ∧ iv = .int .i64 (k : Int) ∧ nv = .int .i64 cur ∧ cur = (pkS old wh k).2.2 ∧ Own wr B pv (pkS old wh k).1 ∧ Own wr B tv (pkS old wh k).2.1 ∧ ApartV pv tv ∧ B ≤ wr.heap.size ∧ K2 w wr b3 b7 old now) (fun iv _ _ _ _ => n - (intOf iv).toNat)
  case atStart => exact ⟨0, 74, by omega, rfl, rfl, rfl, World.ownsRow_nil _ _ _ _, World.ownsRow_nil _ _ _ _, .inl rfl, hBw, HK.out⟩
  case round =>
    obtain ⟨k, cur, hk, rfl, rfl, hcur, hop, hot, hap, hBr, hk2⟩ := hrel
    have HCUR := Lib.hid hcur
    have HOP := Lib.hid hop
    have HOT := Lib.hid hot
    have HAP := Lib.hid hap
    replace HK := Lib.hid hk2
    have hpb := HPN.out k
    rw [← HCUR.out] at hpb
    obtain ⟨hpb1, hpb2⟩ := hpb
    have hplP := (pk_len old wh k).2
    have hplT : (pkS old wh k).2.1.length ≤ k := by rw [← (pk_len old wh k).1]; exact hplP
    clear hcur hop hot hap hk2
    by_cases hlt : k < n
    · have hltI : (k : Int) < (n : Int) := by omega
      have hk0 : (0 : Int) ≤ (k : Int) := by omega
      by_cases hin : k < ws.length
      · have hinI : (k : Int) < (ws.length : Int) := by omega
        obtain ⟨b, hb⟩ : ∃ b, ws[k]? = some b := ⟨_, List.getElem?_eq_getElem hin⟩
        obtain ⟨bq, oq, rfl, hbq, hcq⟩ := (HW.out _ HK.out).at (by omega) (by decide)
        have hck := hcq k (.bool b) (by rw [List.getElem?_map, hb]; rfl)
        have hwk := HW1.out k b hb
        clear hb hcq
        cases b
        · have HPK := Lib.hid (pk_no old hwk)
          clear hwk
          go_wp2_with fail
          go_roundw
          case measure => simp [intOf]; omega
          case rel => exact ⟨k + 1, cur, by omega, by go_num, rfl, by rw [HPK.out]; exact HCUR.out, by rw [HPK.out]; exact HOP.out, by rw [HPK.out]; exact HOT.out, HAP.out, hBr, HK.out⟩
        · obtain ⟨t1, t2, t3⟩ := HTK.out k hwk
          obtain ⟨e1, e2, e3⟩ := pk_yes old hwk
          have hp1 := (HPN.out (k + 1)).2
          rw [e3] at hp1
          rw [← HCUR.out] at t1 t3
          obtain ⟨nxt, hnx⟩ : ∃ nxt, nxt = tkn old wh k := ⟨_, rfl⟩
          rw [← hnx] at t1 t2 t3 e2 e3 hp1
          have hp2 : nxt ≤ 200 := by omega
          have T2 := Lib.hid t2
          have T3 := Lib.hid t3
          have E1 := Lib.hid e1
          have E2 := Lib.hid e2
          have E3 := Lib.hid e3
          clear t2 t3 e1 e2 e3 hwk hnx hp1
          go_wp2_with fail
          generalize decide (ws.length ≤ k) = dd
          go_loopw [11] (fun nv wr => ∃ a : Int, nv = .int .i64 a ∧ cur ≤ a ∧ a ≤ nxt ∧ Own wr B u9 (pkS old wh k).1 ∧ Own wr B u10 (pkS old wh k).2.1 ∧ B ≤ wr.heap.size ∧ K2 w wr b3 b7 old now) (fun nv _ => (nxt - intOf nv).toNat)
          case atStart => exact ⟨cur, rfl, by omega, t1, HOP.out, HOT.out, hBr, HK.out⟩
          case round =>
            obtain ⟨a, rfl, ha1, ha2, hop2, hot2, hBr2, hk3⟩ := hrel
            replace HOP := Lib.hid hop2
            replace HOT := Lib.hid hot2
            replace HK := Lib.hid hk3
            clear hop2 hot2 hk3
            by_cases hab : a < nxt
            · have HHA := Lib.hid (fun w' => HAS.out old a w' HO.out)
              rw [T3.out a ha1 hab] at HHA
              go_wp2_with (first
                | ((with_reducible show wpList _ _ _ (⟨some 55, _, _, _, _, _⟩ :: _) _ _); refine wpList_load_ino rfl _ rfl HK.out.r3 HO.out rfl ?_)
                | (go_at_call 15; refine (HHA.out _).mono ?_; rintro e w8 ⟨rfl, hb8⟩; replace HOP := Lib.hid (own_belV HOP.out hb8); replace HOT := Lib.hid (own_belV HOT.out hb8); replace HK := Lib.hid (HK.out.below hb8 HK.out.o2); have hB8 := Nat.le_trans hBr2 hb8.size; clear hb8))
              go_roundw
              case measure => simp [intOf]; omega
              case rel => exact ⟨a + 1, rfl, by omega, by omega, HOP.out, HOT.out, hB8, HK.out⟩
            · obtain rfl : nxt = a := by omega
              have HHA := Lib.hid (fun w' => HAS.out old nxt w' HO.out)
              rw [T2.out] at HHA
              go_wp2_with (first
                | ((with_reducible show wpList _ _ _ (⟨some 55, _, _, _, _, _⟩ :: _) _ _); refine wpList_load_ino rfl _ rfl HK.out.r3 HO.out rfl ?_)
                | (go_at_call 15; refine (HHA.out _).mono ?_; rintro e w8 ⟨rfl, hb8⟩; replace HOP := Lib.hid (own_belV HOP.out hb8); replace HOT := Lib.hid (own_belV HOT.out hb8); replace HK := Lib.hid (HK.out.below hb8 HK.out.o2); have hB8 := Nat.le_trans hBr2 hb8.size; clear hb8)
                | (at_builtin; (with_reducible show wpList _ _ _ (⟨some 63, _, _, _, _, _⟩ :: _) _ _); refine wpList_append_mine rfl (.tmp 60) (.tmp 62) _ _ rfl B 3 i0 (.int .i64 0) 1 8 hz1 hz2 rfl (by decide) _ _ _ rfl (Mine.alloc (.inr HOP.out) _) _ 1 [.int .i64 (k : Int)] rfl (Gives.elem Try.underlying25 hi0 hz0 hz1 _ rfl) (by simp only [maxLen]; omega) (by omega) (by simp; omega) ?_; intro A9 c9 w9 hm9 hg9 hb9 hat9 hown9; have ho9 := hown9 (.inl (by decide)); have HA9 := Lib.hid (HAP.out.step (HOT.out.alloc _) hat9); have HT9 := Lib.hid ((HOT.out.alloc _).kept hg9 HAP.out.sym); have HP9 : Hid (Own w9 B (.slice A9 ((pkS old wh k).1.length + 1) c9) (pkS old wh (k + 1)).1) := Lib.hid (by rw [E1.out, Own, List.length_append, List.map_append]; exact ho9); have hB9 : B ≤ w9.heap.size := (by have := hb9.size; simp at this; omega); replace HK := Lib.hid (HK.out.below (((Below.refl _ _).alloc hB8 _).trans hb9) hBB); clear ho9 hm9 hg9 hb9 hat9 hown9)
                | (at_builtin; (with_reducible show wpList _ _ _ (⟨some 67, _, _, _, _, _⟩ :: _) _ _); refine wpList_append_mine rfl (.tmp 64) (.tmp 66) _ _ rfl B 3 i0 (.int .i64 0) 1 8 hz1 hz2 rfl (by decide) _ _ _ rfl (Mine.alloc (.inr HT9.out) _) _ 1 [.int .i64 nxt] rfl (Gives.elem Try.underlying25 hi0 hz0 hz1 _ rfl) (by simp only [maxLen]; omega) (by omega) (by simp; omega) ?_; intro A10 c10 w10 hm10 hg10 hb10 hat10 hown10; have ho10 := hown10 (.inl (by decide)); have HA10 := Lib.hid ((HA9.out.sym.step (HP9.out.alloc _) hat10).sym); have HP10 := Lib.hid ((HP9.out.alloc _).kept hg10 HA9.out); have HT10 : Hid (Own w10 B (.slice A10 ((pkS old wh k).2.1.length + 1) c10) (pkS old wh (k + 1)).2.1) := Lib.hid (by rw [E2.out, Own, List.length_append, List.map_append]; exact ho10); have hB10 : B ≤ w10.heap.size := (by have := hb10.size; simp at this; omega); replace HK := Lib.hid (HK.out.below (((Below.refl _ _).alloc hB9 _).trans hb10) hBB); clear ho10 hm10 hg10 hb10 hat10 hown10))
              go_roundw
              case measure => simp [intOf]; omega
              case rel => exact ⟨k + 1, nxt + 1, by omega, by go_num, rfl, E3.out.symm, HP10.out, HT10.out, HA10.out, hB10, HK.out⟩
      · have hinI : (ws.length : Int) ≤ (k : Int) := by omega
        have HPK := Lib.hid (pk_no old (HW0.out k (by omega)))
        go_wp2_with fail
        go_roundw
        case measure => simp [intOf]; omega
        case rel => exact ⟨k + 1, cur, by omega, by go_num, rfl, by rw [HPK.out]; exact HCUR.out, by rw [HPK.out]; exact HOP.out, by rw [HPK.out]; exact HOT.out, HAP.out, hBr, HK.out⟩
    · have hgek : (n : Int) ≤ (k : Int) := by omega
      obtain rfl : n = k := by omega
      obtain ⟨P, hP⟩ : ∃ P, P = (pkS old wh n).1 := ⟨_, rfl⟩
      obtain ⟨T, hT⟩ : ∃ T, T = (pkS old wh n).2.1 := ⟨_, rfl⟩
      have hpl1 := (pk_len old wh n).1
      rw [← hP, ← hT] at HNX HWF hpl1
      rw [← hP] at HOP hplP
      rw [← hT] at HOT hplT
      have hplA : P.length ≤ T.length := by omega
      have hplB : T.length ≤ P.length := by omega
      obtain ⟨A1, c1, rfl, hc1, _, hs1⟩ := Mine.form (.inr HOP.out)
      obtain ⟨A2, c2, rfl, hc2, _, hs2⟩ := Mine.form (.inr HOT.out)
      have HN := Lib.hid (HNX.out A1 A2 c1 c2 _ hs1 hs2)
      have HSP0 := Lib.hid hs1
      have HST0 := Lib.hid hs2
      clear hP hT hs1 hs2 hpl1 HOP HOT HAP HNX HPN HTK HCUR
      go_wp2_with (first
        | ((with_reducible show wpList _ _ _ (⟨some 71, _, _, _, _, _⟩ :: _) _ _); refine wpList_load_ino rfl _ rfl HK.out.r3 HO.out rfl ?_)
        | ((with_reducible show wpList _ _ _ (⟨some 72, _, _, _, _, _⟩ :: _) _ _); refine wpList_load_ino rfl _ rfl HK.out.r7 HNL.out rfl ?_))
      refine HN.out.mono ?_
      rintro e w8 ⟨A14, c14, rfl, hs14, hb8⟩
      have HSP8 := Lib.hid (HSP0.out.on (Nat.le_refl _) hb8)
      have HST8 := Lib.hid (HST0.out.on (Nat.le_refl _) hb8)
      have HG8 := Lib.hid hs14
      replace HK := Lib.hid (HK.out.below hb8 HK.out.o2)
      clear hs14 hb8 HSP0 HST0 HN
      have hne1 : (sz != sz) = false := by simp
      have hne2 : (q2 != q2) = false := by simp
      have hne4 : (q4 != q4) = false := by simp
      go_wp2_with (first
        | ((with_reducible show wpList _ _ _ (⟨some 13, _, _, _, _, _⟩ :: _) _ _); refine wpList_alloc_ino rfl rfl ?_; intro w9 hr9 hb9 hlt9; have hK8 := HK.out.o2; replace HK := Lib.hid (HK.out.below hb9 hK8))
        | ((with_reducible show wpList _ _ _ (⟨none, Op.store 24 (.tmp 13) _, _, _, _, _⟩ :: _) _ _); refine wpList_store_ino rfl _ _ rfl hr9 zIno_len HXL.out rfl rfl ?_; intro w10 hr10 ho10; replace HK := Lib.hid (HK.out.only ho10 hK8); obtain ⟨b13, hb13⟩ : ∃ b13, b13 = w8.heap.size := ⟨_, rfl⟩; rw [← hb13] at hr10 ho10 ⊢; have h9 : Below b13 w8 w10 := (by rw [hb13]; exact hb9.trans (ho10.low _ (by omega))); have HSP : Hid (Sl w10 w10.heap.size 1 A1 P.length (P.map (Value.int .i64))) := Lib.hid (HSP8.out.on (Nat.le_refl _) (hb13 ▸ h9)); have HST : Hid (Sl w10 w10.heap.size 1 A2 T.length (T.map (Value.int .i64))) := Lib.hid (HST8.out.on (Nat.le_refl _) (hb13 ▸ h9)); have HK3 : Hid (K3 w w10 b3 b7 b13 old now X A14 G) := Lib.hid ⟨HK.out, hr10, (by rw [hb13]; exact hK8), (by rw [hb13]; have := ho10.size; omega), HG8.out.on (Nat.le_refl _) (hb13 ▸ h9)⟩; clear hr9 hb9 hlt9 hr10 ho10 hb13 h9 HSP8 HST8 HG8 hK8 HK)
        | ((with_reducible show wpList _ _ _ (⟨some 83, _, _, _, _, _⟩ :: _) _ _); refine wpList_load_num rfl _ _ rfl Try.underlying3 HK3.out.r13 1 _ HX1.out rfl ?_)
        | ((with_reducible show wpList _ _ _ (⟨some 85, _, _, _, _, _⟩ :: _) _ _); refine wpList_load_num rfl _ _ rfl Try.underlying3 HK3.out.k2.r7 1 _ HN1.out rfl ?_)
        | ((with_reducible show wpList _ _ _ (⟨some 90, _, _, _, _, _⟩ :: _) _ _); refine wpList_load_num rfl _ _ rfl Try.underlying3 HK3.out.r13 2 _ HX2.out rfl ?_)
        | ((with_reducible show wpList _ _ _ (⟨some 92, _, _, _, _, _⟩ :: _) _ _); refine wpList_load_num rfl _ _ rfl Try.underlying3 HK3.out.k2.r3 2 _ HQ2.out rfl ?_)
        | ((with_reducible show wpList _ _ _ (⟨some 97, _, _, _, _, _⟩ :: _) _ _); refine wpList_load_num rfl _ _ rfl Try.underlying3 HK3.out.r13 4 _ HX4.out rfl ?_)
        | ((with_reducible show wpList _ _ _ (⟨some 99, _, _, _, _, _⟩ :: _) _ _); refine wpList_load_num rfl _ _ rfl Try.underlying3 HK3.out.k2.r3 4 _ HQ4.out rfl ?_))
      go_loop [16] (fun iv => ∃ k : Nat, k ≤ 32 ∧ iv = .int .i64 (k : Int)) (fun iv => 32 - (intOf iv).toNat)
      case atStart => exact ⟨0, by omega, rfl⟩
      case round =>
        obtain ⟨k, hk, rfl⟩ := hrel
        by_cases hlt : k < 32
        · have hltI : (k : Int) < 32 := by omega
          have hk0 : (0 : Int) ≤ (k : Int) := by omega
          obtain ⟨q, hq⟩ : ∃ q, old[5 + k]? = some q := ⟨_, List.getElem?_eq_getElem (by have := HO.out; omega)⟩
          have HQ := Lib.hid hq
          obtain ⟨x, hx⟩ : ∃ x, x = wantQ old wh n k := ⟨_, rfl⟩
          have HXX := Lib.hid (HXK.out k hlt)
          rw [← hx] at HXX
          by_cases hkn : k < n
          · have hknI : (k : Int) < (n : Int) := by omega
            have HWK := Lib.hid (HWF.out k q q hq (if_pos hkn).symm)
            rw [← hx] at HWK
            clear hq hx
            go_wp2_with (first
              | ((with_reducible show wpList _ _ _ (⟨some 112, _, _, _, _, _⟩ :: _) _ _); refine wpList_load_num rfl _ _ rfl Try.underlying3 HK3.out.k2.r3 (5 + k) _ HQ.out rfl ?_))
            go_loop [18, 17] (fun iv vv => ∃ (i : Nat) (u : Int), i ≤ P.length ∧ iv = .int .i64 (i : Int) ∧ vv = .int .i64 u ∧ u = wfT P T (k : Int) q i) (fun iv _ => P.length - (intOf iv).toNat)
            case atStart => exact ⟨0, q, by omega, rfl, rfl, rfl⟩
            case round =>
              obtain ⟨i, u, hi, rfl, rfl, hu⟩ := hrel
              have HU := Lib.hid hu
              clear hu
              by_cases hlti : i < P.length
              · have hltiI : (i : Int) < (P.length : Int) := by omega
                have hltT : i < T.length := by omega
                have hltTI : (i : Int) < (T.length : Int) := by omega
                have hi0' : (0 : Int) ≤ (i : Int) := by omega
                obtain ⟨p, hp⟩ : ∃ p, P[i]? = some p := ⟨_, List.getElem?_eq_getElem hlti⟩
                obtain ⟨t, ht⟩ : ∃ t, T[i]? = some t := ⟨_, List.getElem?_eq_getElem hltT⟩
                obtain ⟨bp, op, rfl, hbp, hcp⟩ := HSP.out.at (by omega) (by decide)
                obtain ⟨bt, ot, rfl, hbt, hct⟩ := HST.out.at (by omega) (by decide)
                have hc1 := hcp i (.int .i64 p) (by simp [hp])
                have hc2 := hct i (.int .i64 t) (by simp [ht])
                have HST2 : Hid (wfT P T (k : Int) q (i + 1) = if p = (k : Int) then t else u) := Lib.hid (by rw [wfT, ← HU.out, List.getD_eq_getElem?_getD, hp, List.getD_eq_getElem?_getD, ht]; rfl)
                clear hp ht hcp hct
                by_cases hpk : p = (k : Int)
                · have hpkb : (p == (k : Int)) = true := by simp [hpk]
                  have HS3 := Lib.hid (HST2.out.trans (if_pos hpk))
                  clear hpk
                  go_wp2_with fail
                  go_round
                  case measure => simp [intOf]; omega
                  case rel => exact ⟨i + 1, t, by omega, by go_num, rfl, HS3.out.symm⟩
                · have hpkb : (p == (k : Int)) = false := by simp [hpk]
                  have HS3 := Lib.hid (HST2.out.trans (if_neg hpk))
                  clear hpk
                  go_wp2_with fail
                  go_round
                  case measure => simp [intOf]; omega
                  case rel => exact ⟨i + 1, u, by omega, by go_num, rfl, HS3.out.symm⟩
              · have hgei : (P.length : Int) ≤ (i : Int) := by omega
                obtain rfl : P.length = i := by omega
                obtain rfl : x = u := HWK.out.symm.trans HU.out.symm
                have hxx : (x != x) = false := by simp
                go_wp2_with ((with_reducible show wpList _ _ _ (⟨some 132, _, _, _, _, _⟩ :: _) _ _); refine wpList_load_num rfl _ _ rfl Try.underlying3 HK3.out.r13 (5 + k) _ HXX.out rfl ?_)
                go_round
                case measure => simp [intOf]; omega
                case rel => exact ⟨k + 1, by omega, by go_num⟩
          · have hknI : (n : Int) ≤ (k : Int) := by omega
            have HWK := Lib.hid (HWF.out k 0 q hq (if_neg hkn).symm)
            rw [← hx] at HWK
            clear hq hx
            go_wp2_with (first
              | ((with_reducible show wpList _ _ _ (⟨some 112, _, _, _, _, _⟩ :: _) _ _); refine wpList_load_num rfl _ _ rfl Try.underlying3 HK3.out.k2.r3 (5 + k) _ HQ.out rfl ?_))
            go_loop [18, 17] (fun iv vv => ∃ (i : Nat) (u : Int), i ≤ P.length ∧ iv = .int .i64 (i : Int) ∧ vv = .int .i64 u ∧ u = wfT P T (k : Int) 0 i) (fun iv _ => P.length - (intOf iv).toNat)
            case atStart => exact ⟨0, 0, by omega, rfl, rfl, rfl⟩
            case round =>
              obtain ⟨i, u, hi, rfl, rfl, hu⟩ := hrel
              have HU := Lib.hid hu
              clear hu
              by_cases hlti : i < P.length
              · have hltiI : (i : Int) < (P.length : Int) := by omega
                have hltT : i < T.length := by omega
                have hltTI : (i : Int) < (T.length : Int) := by omega
                have hi0' : (0 : Int) ≤ (i : Int) := by omega
                obtain ⟨p, hp⟩ : ∃ p, P[i]? = some p := ⟨_, List.getElem?_eq_getElem hlti⟩
                obtain ⟨t, ht⟩ : ∃ t, T[i]? = some t := ⟨_, List.getElem?_eq_getElem hltT⟩
                obtain ⟨bp, op, rfl, hbp, hcp⟩ := HSP.out.at (by omega) (by decide)
                obtain ⟨bt, ot, rfl, hbt, hct⟩ := HST.out.at (by omega) (by decide)
                have hc1 := hcp i (.int .i64 p) (by simp [hp])
                have hc2 := hct i (.int .i64 t) (by simp [ht])
                have HST2 : Hid (wfT P T (k : Int) 0 (i + 1) = if p = (k : Int) then t else u) := Lib.hid (by rw [wfT, ← HU.out, List.getD_eq_getElem?_getD, hp, List.getD_eq_getElem?_getD, ht]; rfl)
                clear hp ht hcp hct
                by_cases hpk : p = (k : Int)
                · have hpkb : (p == (k : Int)) = true := by simp [hpk]
                  have HS3 := Lib.hid (HST2.out.trans (if_pos hpk))
                  clear hpk
                  go_wp2_with fail
                  go_round
                  case measure => simp [intOf]; omega
                  case rel => exact ⟨i + 1, t, by omega, by go_num, rfl, HS3.out.symm⟩
                · have hpkb : (p == (k : Int)) = false := by simp [hpk]
                  have HS3 := Lib.hid (HST2.out.trans (if_neg hpk))
                  clear hpk
                  go_wp2_with fail
                  go_round
                  case measure => simp [intOf]; omega
                  case rel => exact ⟨i + 1, u, by omega, by go_num, rfl, HS3.out.symm⟩
              · have hgei : (P.length : Int) ≤ (i : Int) := by omega
                obtain rfl : P.length = i := by omega
                obtain rfl : x = u := HWK.out.symm.trans HU.out.symm
                have hxx : (x != x) = false := by simp
                go_wp2_with ((with_reducible show wpList _ _ _ (⟨some 132, _, _, _, _, _⟩ :: _) _ _); refine wpList_load_num rfl _ _ rfl Try.underlying3 HK3.out.r13 (5 + k) _ HXX.out rfl ?_)
                go_round
                case measure => simp [intOf]; omega
                case rel => exact ⟨k + 1, by omega, by go_num⟩
        · have hge : (32 : Int) ≤ (k : Int) := by omega
          go_wp2_with fail
          clear HSP HST HWF HXK
          go_loopw [20, 19] (fun kv av wr => ∃ k c : Nat, k ≤ 32 ∧ kv = .int .i64 (k : Int) ∧ av = .int .i64 (c : Int) ∧ c = cnt k ∧ K3 w wr b3 b7 b13 old now X A14 G) (fun kv _ _ => 32 - (intOf kv).toNat)
          case atStart => exact ⟨0, 0, by omega, rfl, rfl, HC0.out.symm, HK3.out⟩
          case round =>
            obtain ⟨k, c, hk, rfl, rfl, hc, hk3⟩ := hrel
            have HC := Lib.hid hc
            replace HK3 := Lib.hid hk3
            have hck : c ≤ k := by rw [hc]; exact HCL.out k
            clear hc hk3
            by_cases hlt : k < 32
            · have hltI : (k : Int) < 32 := by omega
              have hk0 : (0 : Int) ≤ (k : Int) := by omega
              obtain ⟨q, hq⟩ : ∃ q, old[5 + k]? = some q := ⟨_, List.getElem?_eq_getElem (by have := HO.out; omega)⟩
              have HQ := Lib.hid hq
              have HCX := Lib.hid (HCS.out k q hq)
              rw [← HC.out] at HCX
              by_cases hq0 : q = 0
              · have hqb : (q != 0) = false := by simp [hq0]
                have HCY : Hid (cnt (k + 1) = c) := Lib.hid (by rw [HCX.out, hq0, HF0.out]; rfl)
                clear hq hq0
                go_wp2_with fail
                refine wp_region_rely (by kernel_rfl) (fun d u w' => match d with
                  | 139 => u = (.int .i64 (k : Int) : Value)
                  | 140 => u = (.pointer (some ⟨b3, 5, none⟩) : Value)
                  | 141 => u = (.pointer (some ⟨b3, 5 + k, none⟩) : Value)
                  | 142 => u = (.int .i64 q : Value)
                  | 143 => u = (.bool false : Value)
                  | 144 => u = (.bool false : Value)
                  | 145 => u = (Go.undef : Value)
                  | 146 => u = (Go.undef : Value)
                  | 147 => u = (Go.undef : Value)
                  | 148 => u = (Go.undef : Value)
                  | 149 => u = (Go.undef : Value)
                  | 150 => u = (Go.undef : Value)
                  | 151 => u = (Go.undef : Value)
                  | 152 => u = (.bool false : Value)
                  | _ => True) 177 rfl (by decide +kernel) [152] ?_ ?_
                · refine AllSteps.cons (Step.move _ rfl rfl fun a w' hl => hl.old 20 rfl) ?_
                  refine AllSteps.cons (Step.plain rfl fun a w' K hl hK => ?_) ?_
                  · have h3 : a.eval (.tmp 3) = (.pointer (some ⟨b3, 0, none⟩) : Value) := hl.old 3 rfl
                    refine wp_val (.pointer (some ⟨b3, 5, none⟩)) ?_ (hK _ _ (Kept.refl _) rfl)
                    clear hl hK
                    generalize a.eval = ρ at *
                    simp [execOp, go_sem, h3]
                  refine AllSteps.cons (Step.plain rfl fun a w' K hl hK => ?_) ?_
                  · obtain ⟨_, _, _, h139⟩ := hl.dep 0 139 rfl rfl
                    replace h139 : a.eval (.tmp 139) = _ := h139
                    obtain ⟨_, _, _, h140⟩ := hl.dep 1 140 rfl rfl
                    replace h140 : a.eval (.tmp 140) = _ := h140
                    refine wp_val (.pointer (some ⟨b3, 5 + k, none⟩)) ?_ (hK _ _ (Kept.refl _) rfl)
                    clear hl hK
                    generalize a.eval = ρ at *
                    simp [execOp, go_sem, h139, h140, hltI, hk0]
                    all_goals (try intro h)
                    all_goals (try omega)
                  refine AllSteps.cons (Step.plain rfl fun a w' K hl hK => ?_) ?_
                  · obtain ⟨_, _, _, h141⟩ := hl.dep 2 141 rfl rfl
                    replace h141 : a.eval (.tmp 141) = _ := h141
                    have hcell : w'.cell? ⟨b3, 5 + k, none⟩ = some (.int .i64 q) := (HK3.out.on hl.kept).k2.r3.cell _ _ HQ.out
                    refine wp_val (.int .i64 q) ?_ (hK _ _ (Kept.refl _) rfl)
                    clear hl hK
                    generalize a.eval = ρ at *
                    simp [execOp, go_sem, h141, hcell]
                  refine AllSteps.cons (Step.plain rfl fun a w' K hl hK => ?_) ?_
                  · obtain ⟨_, _, _, h142⟩ := hl.dep 3 142 rfl rfl
                    replace h142 : a.eval (.tmp 142) = _ := h142
                    have hconst : ∀ x, a.eval (.const x) = x := fun _ => rfl
                    refine wp_val (.bool false) ?_ (hK _ _ (Kept.refl _) rfl)
                    clear hl hK
                    generalize a.eval = ρ at *
                    simp [execOp, go_sem, h142, hconst, hqb]
                  refine AllSteps.cons (Step.move _ rfl rfl fun a w' hl => let ⟨_, _, _, h⟩ := hl.dep 4 143 rfl rfl; h) ?_
                  refine AllSteps.cons (Step.no 5 true 144 rfl rfl rfl (fun u w h => by rw [show u = (.bool false : Value) from h]; intro h'; cases h') (fun _ => rfl)) ?_
                  refine AllSteps.cons (Step.no 5 true 144 rfl rfl rfl (fun u w h => by rw [show u = (.bool false : Value) from h]; intro h'; cases h') (fun _ => rfl)) ?_
                  refine AllSteps.cons (Step.no 5 true 144 rfl rfl rfl (fun u w h => by rw [show u = (.bool false : Value) from h]; intro h'; cases h') (fun _ => rfl)) ?_
                  refine AllSteps.cons (Step.no 5 true 144 rfl rfl rfl (fun u w h => by rw [show u = (.bool false : Value) from h]; intro h'; cases h') (fun _ => rfl)) ?_
                  refine AllSteps.cons (Step.no 5 true 144 rfl rfl rfl (fun u w h => by rw [show u = (.bool false : Value) from h]; intro h'; cases h') (fun _ => rfl)) ?_
                  refine AllSteps.cons (Step.no 5 true 144 rfl rfl rfl (fun u w h => by rw [show u = (.bool false : Value) from h]; intro h'; cases h') (fun _ => rfl)) ?_
                  refine AllSteps.cons (Step.no 5 true 144 rfl rfl rfl (fun u w h => by rw [show u = (.bool false : Value) from h]; intro h'; cases h') (fun _ => rfl)) ?_
                  refine AllSteps.cons (Step.plain rfl fun a w' K hl hK => ?_) ?_
                  · obtain ⟨_, _, _, h144⟩ := hl.dep 5 144 rfl rfl
                    replace h144 : a.eval (.tmp 144) = _ := h144
                    obtain ⟨_, _, _, h151⟩ := hl.dep 12 151 rfl rfl
                    replace h151 : a.eval (.tmp 151) = _ := h151
                    exact wp_pick rfl false h144 (hK _ _ (Kept.refl _) rfl)
                  exact AllSteps.nil
                · intro g w19 hk19 hg
                  obtain ⟨_, _, h152⟩ := hg 152 rfl rfl
                  replace h152 : g 152 = .bool false := h152
                  simp only [Exit.then, fill, dsts, List.filterMap_cons, List.filterMap_nil, List.foldl_cons, List.foldl_nil, Act.put, h152, List.setIfInBounds_toArray, List.set_cons_succ, List.set_cons_zero]
                  clear hg h152
                  replace HK3 := Lib.hid (HK3.out.on hk19)
                  clear hk19
                  go_wp2_with fail
                  go_roundw
                  case measure => simp [intOf]; omega
                  case rel => exact ⟨k + 1, c, by omega, by go_num, rfl, HCY.out.symm, HK3.out⟩
              · have hqb : (q != 0) = true := by simp [hq0]
                have hfq := HF1.out q hq0
                have HHA := Lib.hid (fun w' => HAS.out X q w' HXL.out)
                cases hh : hasP X q
                · rw [hh] at hfq HHA
                  have hGc := HCG.out k q hq hfq
                  rw [← HC.out] at hGc
                  have HCY : Hid (cnt (k + 1) = c + 1) := Lib.hid (by rw [HCX.out, hfq]; rfl)
                  have hcG : c < G.length := (List.getElem?_eq_some_iff.1 hGc).1
                  have hcGI : (c : Int) < (G.length : Int) := by omega
                  have hc0 : (0 : Int) ≤ (c : Int) := by omega
                  have HGC := Lib.hid hGc
                  clear hq hq0 hfq hh hGc
                  go_wp2_with fail
                  refine wp_region_rely (by kernel_rfl) (fun d u w' => match d with
                    | 139 => u = (.int .i64 (k : Int) : Value)
                    | 140 => u = (.pointer (some ⟨b3, 5, none⟩) : Value)
                    | 141 => u = (.pointer (some ⟨b3, 5 + k, none⟩) : Value)
                    | 142 => u = (.int .i64 q : Value)
                    | 143 => u = (.bool true : Value)
                    | 144 => u = (.bool true : Value)
                    | 145 => u = (.agg (ints X) : Value)
                    | 146 => u = (.int .i64 (k : Int) : Value)
                    | 147 => u = (.pointer (some ⟨b3, 5, none⟩) : Value)
                    | 148 => u = (.pointer (some ⟨b3, 5 + k, none⟩) : Value)
                    | 149 => u = (.int .i64 q : Value)
                    | 150 => u = (.bool false : Value)
                    | 151 => u = (.bool true : Value)
                    | 152 => u = (.bool true : Value)
                    | _ => True) 177 rfl (by decide +kernel) [152] ?_ ?_
                  · refine AllSteps.cons (Step.move _ rfl rfl fun a w' hl => hl.old 20 rfl) ?_
                    refine AllSteps.cons (Step.plain rfl fun a w' K hl hK => ?_) ?_
                    · have h3 : a.eval (.tmp 3) = (.pointer (some ⟨b3, 0, none⟩) : Value) := hl.old 3 rfl
                      refine wp_val (.pointer (some ⟨b3, 5, none⟩)) ?_ (hK _ _ (Kept.refl _) rfl)
                      clear hl hK
                      generalize a.eval = ρ at *
                      simp [execOp, go_sem, h3]
                    refine AllSteps.cons (Step.plain rfl fun a w' K hl hK => ?_) ?_
                    · obtain ⟨_, _, _, h139⟩ := hl.dep 0 139 rfl rfl
                      replace h139 : a.eval (.tmp 139) = _ := h139
                      obtain ⟨_, _, _, h140⟩ := hl.dep 1 140 rfl rfl
                      replace h140 : a.eval (.tmp 140) = _ := h140
                      refine wp_val (.pointer (some ⟨b3, 5 + k, none⟩)) ?_ (hK _ _ (Kept.refl _) rfl)
                      clear hl hK
                      generalize a.eval = ρ at *
                      simp [execOp, go_sem, h139, h140, hltI, hk0]
                      all_goals (try intro h)
                      all_goals (try omega)
                    refine AllSteps.cons (Step.plain rfl fun a w' K hl hK => ?_) ?_
                    · obtain ⟨_, _, _, h141⟩ := hl.dep 2 141 rfl rfl
                      replace h141 : a.eval (.tmp 141) = _ := h141
                      have hcell : w'.cell? ⟨b3, 5 + k, none⟩ = some (.int .i64 q) := (HK3.out.on hl.kept).k2.r3.cell _ _ HQ.out
                      refine wp_val (.int .i64 q) ?_ (hK _ _ (Kept.refl _) rfl)
                      clear hl hK
                      generalize a.eval = ρ at *
                      simp [execOp, go_sem, h141, hcell]
                    refine AllSteps.cons (Step.plain rfl fun a w' K hl hK => ?_) ?_
                    · obtain ⟨_, _, _, h142⟩ := hl.dep 3 142 rfl rfl
                      replace h142 : a.eval (.tmp 142) = _ := h142
                      have hconst : ∀ x, a.eval (.const x) = x := fun _ => rfl
                      refine wp_val (.bool true) ?_ (hK _ _ (Kept.refl _) rfl)
                      clear hl hK
                      generalize a.eval = ρ at *
                      simp [execOp, go_sem, h142, hconst, hqb]
                    refine AllSteps.cons (Step.move _ rfl rfl fun a w' hl => let ⟨_, _, _, h⟩ := hl.dep 4 143 rfl rfl; h) ?_
                    refine AllSteps.cons (Step.yes 5 true 144 rfl rfl rfl (fun _ _ h => h) fun a w' K hl hK => ?_) ?_
                    · have h13 : a.eval (.tmp 13) = (.pointer (some ⟨b13, 0, none⟩) : Value) := hl.old 13 rfl
                      exact wp_load_ino rfl (HK3.out.on hl.kept).r13 HXL.out h13 (hK _ _ (Kept.refl _) rfl)
                    refine AllSteps.cons (Step.yes 5 true 144 rfl rfl rfl (fun _ _ h => h) fun a w' K hl hK => ?_) ?_
                    · have h20 : a.eval (.tmp 20) = (.int .i64 (k : Int) : Value) := hl.old 20 rfl
                      exact wp_val (a.eval (.tmp 20)) rfl (hK _ _ (Kept.refl _) h20)
                    refine AllSteps.cons (Step.yes 5 true 144 rfl rfl rfl (fun _ _ h => h) fun a w' K hl hK => ?_) ?_
                    · have h3 : a.eval (.tmp 3) = (.pointer (some ⟨b3, 0, none⟩) : Value) := hl.old 3 rfl
                      refine wp_val (.pointer (some ⟨b3, 5, none⟩)) ?_ (hK _ _ (Kept.refl _) rfl)
                      clear hl hK
                      generalize a.eval = ρ at *
                      simp [execOp, go_sem, h3]
                    refine AllSteps.cons (Step.yes 5 true 144 rfl rfl rfl (fun _ _ h => h) fun a w' K hl hK => ?_) ?_
                    · obtain ⟨_, _, _, h146⟩ := hl.dep 7 146 rfl rfl
                      replace h146 : a.eval (.tmp 146) = _ := h146
                      obtain ⟨_, _, _, h147⟩ := hl.dep 8 147 rfl rfl
                      replace h147 : a.eval (.tmp 147) = _ := h147
                      refine wp_val (.pointer (some ⟨b3, 5 + k, none⟩)) ?_ (hK _ _ (Kept.refl _) rfl)
                      clear hl hK
                      generalize a.eval = ρ at *
                      simp [execOp, go_sem, h146, h147, hltI, hk0]
                      all_goals (try intro h)
                      all_goals (try omega)
                    refine AllSteps.cons (Step.yes 5 true 144 rfl rfl rfl (fun _ _ h => h) fun a w' K hl hK => ?_) ?_
                    · obtain ⟨_, _, _, h148⟩ := hl.dep 9 148 rfl rfl
                      replace h148 : a.eval (.tmp 148) = _ := h148
                      have hcell : w'.cell? ⟨b3, 5 + k, none⟩ = some (.int .i64 q) := (HK3.out.on hl.kept).k2.r3.cell _ _ HQ.out
                      refine wp_val (.int .i64 q) ?_ (hK _ _ (Kept.refl _) rfl)
                      clear hl hK
                      generalize a.eval = ρ at *
                      simp [execOp, go_sem, h148, hcell]
                    refine AllSteps.cons (Step.yes 5 true 144 rfl rfl rfl (fun _ _ h => h) fun a w' K hl hK => ?_) ?_
                    · obtain ⟨_, _, _, h145⟩ := hl.dep 6 145 rfl rfl
                      replace h145 : a.eval (.tmp 145) = _ := h145
                      obtain ⟨_, _, _, h149⟩ := hl.dep 10 149 rfl rfl
                      replace h149 : a.eval (.tmp 149) = _ := h149
                      refine wp_call rfl Try.func15 rfl rfl #[.agg (ints X), .int .i64 q] (by simp [h145, h149]) ?_
                      refine (HHA.out w').mono ?_
                      rintro e w8 ⟨rfl, hb8⟩
                      exact ⟨_, rfl, hK _ _ hb8 rfl⟩
                    refine AllSteps.cons (Step.yes 5 true 144 rfl rfl rfl (fun _ _ h => h) fun a w' K hl hK => ?_) ?_
                    · obtain ⟨_, _, _, h150⟩ := hl.dep 11 150 rfl rfl
                      replace h150 : a.eval (.tmp 150) = _ := h150
                      refine wp_val (.bool true) ?_ (hK _ _ (Kept.refl _) rfl)
                      clear hl hK
                      generalize a.eval = ρ at *
                      simp [execOp, go_sem, h150]
                    refine AllSteps.cons (Step.plain rfl fun a w' K hl hK => ?_) ?_
                    · obtain ⟨_, _, _, h144⟩ := hl.dep 5 144 rfl rfl
                      replace h144 : a.eval (.tmp 144) = _ := h144
                      obtain ⟨_, _, _, h151⟩ := hl.dep 12 151 rfl rfl
                      replace h151 : a.eval (.tmp 151) = _ := h151
                      exact wp_pick rfl true h144 (hK _ _ (Kept.refl _) h151)
                    exact AllSteps.nil
                  · intro g w19 hk19 hg
                    obtain ⟨_, _, h152⟩ := hg 152 rfl rfl
                    replace h152 : g 152 = .bool true := h152
                    simp only [Exit.then, fill, dsts, List.filterMap_cons, List.filterMap_nil, List.foldl_cons, List.foldl_nil, Act.put, h152, List.setIfInBounds_toArray, List.set_cons_succ, List.set_cons_zero]
                    clear hg h152
                    replace HK3 := Lib.hid (HK3.out.on hk19)
                    clear hk19
                    obtain ⟨bg, og, rfl, hbg, hcg⟩ := HK3.out.g.at (by omega) (by decide)
                    have HCC := Lib.hid (hcg c (.int .i64 q) (by rw [List.getElem?_map, HGC.out]; rfl))
                    have hqq : (q != q) = false := by simp
                    clear hcg
                    go_wp2_with fail
                    refine wp_region_rely (by kernel_rfl) (fun d u w' => match d with
                      | 153 => u = (.int .i64 (c : Int) : Value)
                      | 154 => u = (.slice (some ⟨bg, og, none⟩) G.length c14 : Value)
                      | 155 => u = (.int .i64 (G.length : Int) : Value)
                      | 156 => u = (.bool false : Value)
                      | 157 => u = (.bool false : Value)
                      | 158 => u = (.slice (some ⟨bg, og, none⟩) G.length c14 : Value)
                      | 159 => u = (.int .i64 (c : Int) : Value)
                      | 160 => u = (.pointer (some ⟨bg, og + c, none⟩) : Value)
                      | 161 => u = (.int .i64 q : Value)
                      | 162 => u = (.int .i64 (k : Int) : Value)
                      | 163 => u = (.pointer (some ⟨b3, 5, none⟩) : Value)
                      | 164 => u = (.pointer (some ⟨b3, 5 + k, none⟩) : Value)
                      | 165 => u = (.int .i64 q : Value)
                      | 166 => u = (.bool false : Value)
                      | 167 => u = (.bool false : Value)
                      | _ => True) 177 rfl (by decide +kernel) [167] ?_ ?_
                    · refine AllSteps.cons (Step.move _ rfl rfl fun a w' hl => hl.old 19 rfl) ?_
                      refine AllSteps.cons (Step.move _ rfl rfl fun a w' hl => hl.old 14 rfl) ?_
                      refine AllSteps.cons (Step.plain rfl fun a w' K hl hK => ?_) ?_
                      · obtain ⟨_, _, _, h154⟩ := hl.dep 1 154 rfl rfl
                        replace h154 : a.eval (.tmp 154) = _ := h154
                        refine wp_val (.int .i64 (G.length : Int)) ?_ (hK _ _ (Kept.refl _) rfl)
                        clear hl hK
                        generalize a.eval = ρ at *
                        simp [go_sem, h154]
                      refine AllSteps.cons (Step.plain rfl fun a w' K hl hK => ?_) ?_
                      · obtain ⟨_, _, _, h153⟩ := hl.dep 0 153 rfl rfl
                        replace h153 : a.eval (.tmp 153) = _ := h153
                        obtain ⟨_, _, _, h155⟩ := hl.dep 2 155 rfl rfl
                        replace h155 : a.eval (.tmp 155) = _ := h155
                        refine wp_val (.bool false) ?_ (hK _ _ (Kept.refl _) rfl)
                        clear hl hK
                        generalize a.eval = ρ at *
                        simp [execOp, go_sem, h153, h155]
                        try omega
                      refine AllSteps.cons (Step.move _ rfl rfl fun a w' hl => let ⟨_, _, _, h⟩ := hl.dep 3 156 rfl rfl; h) ?_
                      refine AllSteps.cons (Step.yes 4 false 157 rfl rfl rfl (fun _ _ h => h) fun a w' K hl hK => ?_) ?_
                      · have h14 : a.eval (.tmp 14) = (.slice (some ⟨bg, og, none⟩) G.length c14 : Value) := hl.old 14 rfl
                        exact wp_val (a.eval (.tmp 14)) rfl (hK _ _ (Kept.refl _) h14)
                      refine AllSteps.cons (Step.yes 4 false 157 rfl rfl rfl (fun _ _ h => h) fun a w' K hl hK => ?_) ?_
                      · have h19 : a.eval (.tmp 19) = (.int .i64 (c : Int) : Value) := hl.old 19 rfl
                        exact wp_val (a.eval (.tmp 19)) rfl (hK _ _ (Kept.refl _) h19)
                      refine AllSteps.cons (Step.yes 4 false 157 rfl rfl rfl (fun _ _ h => h) fun a w' K hl hK => ?_) ?_
                      · obtain ⟨_, _, _, h158⟩ := hl.dep 5 158 rfl rfl
                        replace h158 : a.eval (.tmp 158) = _ := h158
                        obtain ⟨_, _, _, h159⟩ := hl.dep 6 159 rfl rfl
                        replace h159 : a.eval (.tmp 159) = _ := h159
                        refine wp_val (.pointer (some ⟨bg, og + c, none⟩)) ?_ (hK _ _ (Kept.refl _) rfl)
                        clear hl hK
                        generalize a.eval = ρ at *
                        simp [execOp, go_sem, h158, h159]
                        all_goals (try intro h)
                        all_goals (try omega)
                      refine AllSteps.cons (Step.yes 4 false 157 rfl rfl rfl (fun _ _ h => h) fun a w' K hl hK => ?_) ?_
                      · obtain ⟨_, _, _, h160⟩ := hl.dep 7 160 rfl rfl
                        replace h160 : a.eval (.tmp 160) = _ := h160
                        have hcell : w'.cell? ⟨bg, og + c, none⟩ = some (.int .i64 q) := (Below.cell hl.kept hbg).trans HCC.out
                        refine wp_val (.int .i64 q) ?_ (hK _ _ (Kept.refl _) rfl)
                        clear hl hK
                        generalize a.eval = ρ at *
                        simp [execOp, go_sem, h160, hcell]
                      refine AllSteps.cons (Step.yes 4 false 157 rfl rfl rfl (fun _ _ h => h) fun a w' K hl hK => ?_) ?_
                      · have h20 : a.eval (.tmp 20) = (.int .i64 (k : Int) : Value) := hl.old 20 rfl
                        exact wp_val (a.eval (.tmp 20)) rfl (hK _ _ (Kept.refl _) h20)
                      refine AllSteps.cons (Step.yes 4 false 157 rfl rfl rfl (fun _ _ h => h) fun a w' K hl hK => ?_) ?_
                      · have h3 : a.eval (.tmp 3) = (.pointer (some ⟨b3, 0, none⟩) : Value) := hl.old 3 rfl
                        refine wp_val (.pointer (some ⟨b3, 5, none⟩)) ?_ (hK _ _ (Kept.refl _) rfl)
                        clear hl hK
                        generalize a.eval = ρ at *
                        simp [execOp, go_sem, h3]
                      refine AllSteps.cons (Step.yes 4 false 157 rfl rfl rfl (fun _ _ h => h) fun a w' K hl hK => ?_) ?_
                      · obtain ⟨_, _, _, h162⟩ := hl.dep 9 162 rfl rfl
                        replace h162 : a.eval (.tmp 162) = _ := h162
                        obtain ⟨_, _, _, h163⟩ := hl.dep 10 163 rfl rfl
                        replace h163 : a.eval (.tmp 163) = _ := h163
                        refine wp_val (.pointer (some ⟨b3, 5 + k, none⟩)) ?_ (hK _ _ (Kept.refl _) rfl)
                        clear hl hK
                        generalize a.eval = ρ at *
                        simp [execOp, go_sem, h162, h163, hltI, hk0]
                        all_goals (try intro h)
                        all_goals (try omega)
                      refine AllSteps.cons (Step.yes 4 false 157 rfl rfl rfl (fun _ _ h => h) fun a w' K hl hK => ?_) ?_
                      · obtain ⟨_, _, _, h164⟩ := hl.dep 11 164 rfl rfl
                        replace h164 : a.eval (.tmp 164) = _ := h164
                        have hcell : w'.cell? ⟨b3, 5 + k, none⟩ = some (.int .i64 q) := (HK3.out.on hl.kept).k2.r3.cell _ _ HQ.out
                        refine wp_val (.int .i64 q) ?_ (hK _ _ (Kept.refl _) rfl)
                        clear hl hK
                        generalize a.eval = ρ at *
                        simp [execOp, go_sem, h164, hcell]
                      refine AllSteps.cons (Step.yes 4 false 157 rfl rfl rfl (fun _ _ h => h) fun a w' K hl hK => ?_) ?_
                      · obtain ⟨_, _, _, h161⟩ := hl.dep 8 161 rfl rfl
                        replace h161 : a.eval (.tmp 161) = _ := h161
                        obtain ⟨_, _, _, h165⟩ := hl.dep 12 165 rfl rfl
                        replace h165 : a.eval (.tmp 165) = _ := h165
                        refine wp_val (.bool false) ?_ (hK _ _ (Kept.refl _) rfl)
                        clear hl hK
                        generalize a.eval = ρ at *
                        simp [execOp, go_sem, h161, h165]
                      refine AllSteps.cons (Step.plain rfl fun a w' K hl hK => ?_) ?_
                      · obtain ⟨_, _, _, h157⟩ := hl.dep 4 157 rfl rfl
                        replace h157 : a.eval (.tmp 157) = _ := h157
                        obtain ⟨_, _, _, h166⟩ := hl.dep 13 166 rfl rfl
                        replace h166 : a.eval (.tmp 166) = _ := h166
                        exact wp_pick rfl false h157 (hK _ _ (Kept.refl _) h166)
                      exact AllSteps.nil
                    · intro g w20 hk20 hg
                      obtain ⟨_, _, h167⟩ := hg 167 rfl rfl
                      replace h167 : g 167 = .bool false := h167
                      simp only [Exit.then, fill, dsts, List.filterMap_cons, List.filterMap_nil, List.foldl_cons, List.foldl_nil, Act.put, h167, List.setIfInBounds_toArray, List.set_cons_succ, List.set_cons_zero]
                      clear hg h167
                      replace HK3 := Lib.hid (HK3.out.on hk20)
                      clear hk20
                      go_wp2_with fail
                      go_roundw
                      case measure => simp [intOf]; omega
                      case rel => exact ⟨k + 1, c + 1, by omega, by go_num, by go_num, HCY.out.symm, HK3.out⟩
                · rw [hh] at hfq HHA
                  have HCY : Hid (cnt (k + 1) = c) := Lib.hid (by rw [HCX.out, hfq]; rfl)
                  clear hq hq0 hfq hh
                  go_wp2_with fail
                  refine wp_region_rely (by kernel_rfl) (fun d u w' => match d with
                    | 139 => u = (.int .i64 (k : Int) : Value)
                    | 140 => u = (.pointer (some ⟨b3, 5, none⟩) : Value)
                    | 141 => u = (.pointer (some ⟨b3, 5 + k, none⟩) : Value)
                    | 142 => u = (.int .i64 q : Value)
                    | 143 => u = (.bool true : Value)
                    | 144 => u = (.bool true : Value)
                    | 145 => u = (.agg (ints X) : Value)
                    | 146 => u = (.int .i64 (k : Int) : Value)
                    | 147 => u = (.pointer (some ⟨b3, 5, none⟩) : Value)
                    | 148 => u = (.pointer (some ⟨b3, 5 + k, none⟩) : Value)
                    | 149 => u = (.int .i64 q : Value)
                    | 150 => u = (.bool true : Value)
                    | 151 => u = (.bool false : Value)
                    | 152 => u = (.bool false : Value)
                    | _ => True) 177 rfl (by decide +kernel) [152] ?_ ?_
                  · refine AllSteps.cons (Step.move _ rfl rfl fun a w' hl => hl.old 20 rfl) ?_
                    refine AllSteps.cons (Step.plain rfl fun a w' K hl hK => ?_) ?_
                    · have h3 : a.eval (.tmp 3) = (.pointer (some ⟨b3, 0, none⟩) : Value) := hl.old 3 rfl
                      refine wp_val (.pointer (some ⟨b3, 5, none⟩)) ?_ (hK _ _ (Kept.refl _) rfl)
                      clear hl hK
                      generalize a.eval = ρ at *
                      simp [execOp, go_sem, h3]
                    refine AllSteps.cons (Step.plain rfl fun a w' K hl hK => ?_) ?_
                    · obtain ⟨_, _, _, h139⟩ := hl.dep 0 139 rfl rfl
                      replace h139 : a.eval (.tmp 139) = _ := h139
                      obtain ⟨_, _, _, h140⟩ := hl.dep 1 140 rfl rfl
                      replace h140 : a.eval (.tmp 140) = _ := h140
                      refine wp_val (.pointer (some ⟨b3, 5 + k, none⟩)) ?_ (hK _ _ (Kept.refl _) rfl)
                      clear hl hK
                      generalize a.eval = ρ at *
                      simp [execOp, go_sem, h139, h140, hltI, hk0]
                      all_goals (try intro h)
                      all_goals (try omega)
                    refine AllSteps.cons (Step.plain rfl fun a w' K hl hK => ?_) ?_
                    · obtain ⟨_, _, _, h141⟩ := hl.dep 2 141 rfl rfl
                      replace h141 : a.eval (.tmp 141) = _ := h141
                      have hcell : w'.cell? ⟨b3, 5 + k, none⟩ = some (.int .i64 q) := (HK3.out.on hl.kept).k2.r3.cell _ _ HQ.out
                      refine wp_val (.int .i64 q) ?_ (hK _ _ (Kept.refl _) rfl)
                      clear hl hK
                      generalize a.eval = ρ at *
                      simp [execOp, go_sem, h141, hcell]
                    refine AllSteps.cons (Step.plain rfl fun a w' K hl hK => ?_) ?_
                    · obtain ⟨_, _, _, h142⟩ := hl.dep 3 142 rfl rfl
                      replace h142 : a.eval (.tmp 142) = _ := h142
                      have hconst : ∀ x, a.eval (.const x) = x := fun _ => rfl
                      refine wp_val (.bool true) ?_ (hK _ _ (Kept.refl _) rfl)
                      clear hl hK
                      generalize a.eval = ρ at *
                      simp [execOp, go_sem, h142, hconst, hqb]
                    refine AllSteps.cons (Step.move _ rfl rfl fun a w' hl => let ⟨_, _, _, h⟩ := hl.dep 4 143 rfl rfl; h) ?_
                    refine AllSteps.cons (Step.yes 5 true 144 rfl rfl rfl (fun _ _ h => h) fun a w' K hl hK => ?_) ?_
                    · have h13 : a.eval (.tmp 13) = (.pointer (some ⟨b13, 0, none⟩) : Value) := hl.old 13 rfl
                      exact wp_load_ino rfl (HK3.out.on hl.kept).r13 HXL.out h13 (hK _ _ (Kept.refl _) rfl)
                    refine AllSteps.cons (Step.yes 5 true 144 rfl rfl rfl (fun _ _ h => h) fun a w' K hl hK => ?_) ?_
                    · have h20 : a.eval (.tmp 20) = (.int .i64 (k : Int) : Value) := hl.old 20 rfl
                      exact wp_val (a.eval (.tmp 20)) rfl (hK _ _ (Kept.refl _) h20)
                    refine AllSteps.cons (Step.yes 5 true 144 rfl rfl rfl (fun _ _ h => h) fun a w' K hl hK => ?_) ?_
                    · have h3 : a.eval (.tmp 3) = (.pointer (some ⟨b3, 0, none⟩) : Value) := hl.old 3 rfl
                      refine wp_val (.pointer (some ⟨b3, 5, none⟩)) ?_ (hK _ _ (Kept.refl _) rfl)
                      clear hl hK
                      generalize a.eval = ρ at *
                      simp [execOp, go_sem, h3]
                    refine AllSteps.cons (Step.yes 5 true 144 rfl rfl rfl (fun _ _ h => h) fun a w' K hl hK => ?_) ?_
                    · obtain ⟨_, _, _, h146⟩ := hl.dep 7 146 rfl rfl
                      replace h146 : a.eval (.tmp 146) = _ := h146
                      obtain ⟨_, _, _, h147⟩ := hl.dep 8 147 rfl rfl
                      replace h147 : a.eval (.tmp 147) = _ := h147
                      refine wp_val (.pointer (some ⟨b3, 5 + k, none⟩)) ?_ (hK _ _ (Kept.refl _) rfl)
                      clear hl hK
                      generalize a.eval = ρ at *
                      simp [execOp, go_sem, h146, h147, hltI, hk0]
                      all_goals (try intro h)
                      all_goals (try omega)
                    refine AllSteps.cons (Step.yes 5 true 144 rfl rfl rfl (fun _ _ h => h) fun a w' K hl hK => ?_) ?_
                    · obtain ⟨_, _, _, h148⟩ := hl.dep 9 148 rfl rfl
                      replace h148 : a.eval (.tmp 148) = _ := h148
                      have hcell : w'.cell? ⟨b3, 5 + k, none⟩ = some (.int .i64 q) := (HK3.out.on hl.kept).k2.r3.cell _ _ HQ.out
                      refine wp_val (.int .i64 q) ?_ (hK _ _ (Kept.refl _) rfl)
                      clear hl hK
                      generalize a.eval = ρ at *
                      simp [execOp, go_sem, h148, hcell]
                    refine AllSteps.cons (Step.yes 5 true 144 rfl rfl rfl (fun _ _ h => h) fun a w' K hl hK => ?_) ?_
                    · obtain ⟨_, _, _, h145⟩ := hl.dep 6 145 rfl rfl
                      replace h145 : a.eval (.tmp 145) = _ := h145
                      obtain ⟨_, _, _, h149⟩ := hl.dep 10 149 rfl rfl
                      replace h149 : a.eval (.tmp 149) = _ := h149
                      refine wp_call rfl Try.func15 rfl rfl #[.agg (ints X), .int .i64 q] (by simp [h145, h149]) ?_
                      refine (HHA.out w').mono ?_
                      rintro e w8 ⟨rfl, hb8⟩
                      exact ⟨_, rfl, hK _ _ hb8 rfl⟩
                    refine AllSteps.cons (Step.yes 5 true 144 rfl rfl rfl (fun _ _ h => h) fun a w' K hl hK => ?_) ?_
                    · obtain ⟨_, _, _, h150⟩ := hl.dep 11 150 rfl rfl
                      replace h150 : a.eval (.tmp 150) = _ := h150
                      refine wp_val (.bool false) ?_ (hK _ _ (Kept.refl _) rfl)
                      clear hl hK
                      generalize a.eval = ρ at *
                      simp [execOp, go_sem, h150]
                    refine AllSteps.cons (Step.plain rfl fun a w' K hl hK => ?_) ?_
                    · obtain ⟨_, _, _, h144⟩ := hl.dep 5 144 rfl rfl
                      replace h144 : a.eval (.tmp 144) = _ := h144
                      obtain ⟨_, _, _, h151⟩ := hl.dep 12 151 rfl rfl
                      replace h151 : a.eval (.tmp 151) = _ := h151
                      exact wp_pick rfl true h144 (hK _ _ (Kept.refl _) h151)
                    exact AllSteps.nil
                  · intro g w19 hk19 hg
                    obtain ⟨_, _, h152⟩ := hg 152 rfl rfl
                    replace h152 : g 152 = .bool false := h152
                    simp only [Exit.then, fill, dsts, List.filterMap_cons, List.filterMap_nil, List.foldl_cons, List.foldl_nil, Act.put, h152, List.setIfInBounds_toArray, List.set_cons_succ, List.set_cons_zero]
                    clear hg h152
                    replace HK3 := Lib.hid (HK3.out.on hk19)
                    clear hk19
                    go_wp2_with fail
                    go_roundw
                    case measure => simp [intOf]; omega
                    case rel => exact ⟨k + 1, c, by omega, by go_num, rfl, HCY.out.symm, HK3.out⟩
            · have hge : (32 : Int) ≤ (k : Int) := by omega
              obtain rfl : k = 32 := by omega
              have hcG : c = G.length := HC.out.trans HCE.out
              obtain ⟨gl, hgl⟩ : ∃ gl : Nat, gl = G.length := ⟨_, rfl⟩
              rw [← hgl] at hcG ⊢
              subst hcG
              have hcc : ((c : Int) == (c : Int)) = true := by simp
              go_wp2_with (go_at_call 8; refine (awake_any _).mono ?_; rintro e w12 ⟨rfl, hb12⟩)
              go_ret
              exact ⟨rfl, HK3.out.k2.bel.trans (hb12.mono HK3.out.k2.bel.size)⟩

theorem keeps_walk (old : List Int) (size : Int) (Aw : Option Addr) (ws : List Bool) (cw : Nat) (w : World) (hold : old.length = 37) (hs1 : -9223372036854775808 ≤ size) (hs2 : size ≤ 9223372036854775807)
    (hws : Sl w w.heap.size 1 Aw ws.length (ws.map Value.bool)) (hcw : ws.length ≤ cw) (hbig : ws.length ≤ 140737488355328) :
    Calls Try.prog 4 #[.agg (ints old), .int .i64 size, .slice Aw ws.length cw] w fun e w' => e = .returned (.bool true) ∧ Below w.heap.size w w' := by
  cases hc : chkL old
  · exact keeps_bad old size Aw ws.length cw w hold hc
  · obtain ⟨q0, hq0⟩ : ∃ q, old[0]? = some q := ⟨_, List.getElem?_eq_getElem (by omega)⟩
    by_cases hq : q0 = 1
    · subst hq
      exact keeps_main old size Aw ws cw w hold hs1 hs2 hws hbig hc hq0
    · exact keeps_other old size Aw ws.length cw w hold hc q0 hq0 hq
end Go.Proofs.Ytgfhepfikphliaa.Al

