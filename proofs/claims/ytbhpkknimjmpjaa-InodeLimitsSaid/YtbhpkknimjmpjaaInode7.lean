/-
  inode.Put of an inode that may be.
-/
import Derived.Test.YtbhpkknimjmpjaaInode6
namespace Go.Proofs.Ytbhpkknimjmpjaa.In
open Go.RowKit Wd Wi
set_option linter.unusedVariables false
set_option maxRecDepth 100000 in
set_option maxHeartbeats 1600000 in
theorem iput_yes (k0 s0 l0 o0 n0 : Int) (ps : List Int) (hps : ps.length = 32) (w : World) (h : chk k0 s0 l0 o0 n0 ps = true) :
    Calls Try.prog 12 #[.agg (ints (k0 :: s0 :: l0 :: o0 :: n0 :: ps))] w (ResO w (blk k0 s0 l0 o0 n0 ps)) := by
  obtain ⟨⟨hk0, hk1⟩, ⟨hs0, hs1⟩, ⟨hl0, hl1⟩, ⟨ho0, ho1⟩, ⟨hn0, hn1⟩, hpb⟩ := chk_bd hps h
  have hc0 := ino_cell w (k0 :: s0 :: l0 :: o0 :: n0 :: ps) 26 0 k0 rfl
  have hc1 := ino_cell w (k0 :: s0 :: l0 :: o0 :: n0 :: ps) 26 1 s0 rfl
  have hc2 := ino_cell w (k0 :: s0 :: l0 :: o0 :: n0 :: ps) 26 2 l0 rfl
  have hc3 := ino_cell w (k0 :: s0 :: l0 :: o0 :: n0 :: ps) 26 3 o0 rfl
  have hc4 := ino_cell w (k0 :: s0 :: l0 :: o0 :: n0 :: ps) 26 4 n0 rfl
  have hcp : ∀ i v, ps[i]? = some v → (w.alloc (.cells (ints (k0 :: s0 :: l0 :: o0 :: n0 :: ps)) 26)).cell? ⟨w.heap.size, 5 + i, none⟩ = some (.int .i64 v) := by
    intro i v h
    exact ino_cell w (k0 :: s0 :: l0 :: o0 :: n0 :: ps) 26 (5 + i) v (by rw [Nat.add_comm]; simpa using h)
  have hlen : (k0 :: s0 :: l0 :: o0 :: n0 :: ps).length = 37 := by simp [hps]
  have hrange : (w.alloc (.cells (ints (k0 :: s0 :: l0 :: o0 :: n0 :: ps)) 26)).rangeAt w.heap.size 0 ((k0 :: s0 :: l0 :: o0 :: n0 :: ps).map (Value.int .i64)) := by
    intro j v hj
    rw [cell_of_row _ _ _ _ _ (0, 0) (heap_alloc_new w _), Nat.zero_add]
    simpa [ints] using hj
  have hcheck := fun w' => check_any k0 s0 l0 o0 n0 ps hps w'
  rw [h] at hcheck
  generalize (k0 :: s0 :: l0 :: o0 :: n0 :: ps) = xs at *
  obtain ⟨w1, hw1⟩ : ∃ w1, w1 = w.alloc (.cells (ints xs) 26) := ⟨_, rfl⟩
  have hlt : w.heap.size < w1.heap.size := by subst hw1; simp
  have hkw : Below w.heap.size w w1 := by subst hw1; exact (Below.refl _ _).alloc (Nat.le_refl _) _
  rw [← hw1] at hc0 hc1 hc2 hc3 hc4 hcp hrange
  have HP := Lib.hid hcheck
  have HL := Lib.hid hlen
  have HR := Lib.hid hrange
  have HC := Lib.hid hcp
  have HW := Lib.hid hw1
  have HPB := Lib.hid hpb
  have HKW := Lib.hid hkw
  have hc0' := hc0; have hc1' := hc1; have hc2' := hc2; have hc3' := hc3; have hc4' := hc4
  have HX := Lib.hid (And.intro hc0 (And.intro hc1 (And.intro hc2 (And.intro hc3 hc4))))
  clear hcheck hlen hrange hcp hpb h hc0 hc1 hc2 hc3 hc4 hc0' hc1' hc2' hc3' hc4' hw1 hkw
  go_enter Try.func12, Try.ntmps12
  go_wp2_with (first
    | ((with_reducible show wpList _ _ _ (⟨some 6, _, _, _, _, _⟩ :: _) _ _); rw [← HW.out]; refine wpList_load_mid rfl 26 _ rfl w.heap.size 0 rfl _ _ HR.out Try.underlying26 rfl (by rw [List.length_map, HL.out]; kernel_rfl) ?_)
    | (go_at_call 14; refine (HP.out _).mono ?_; rintro e w2 ⟨rfl, hb2⟩))
  have HK2 : Hid (Kept w1 w2) := hb2
  have HB0 : Hid (w.heap.size < w2.heap.size) := Nat.lt_of_lt_of_le hlt hb2.size
  have hc0 := (Below.cell hb2 (p := ⟨w.heap.size, 0, none⟩) hlt).trans HX.out.1
  have hc1 := (Below.cell hb2 (p := ⟨w.heap.size, 1, none⟩) hlt).trans HX.out.2.1
  have hc2 := (Below.cell hb2 (p := ⟨w.heap.size, 2, none⟩) hlt).trans HX.out.2.2.1
  have hc3 := (Below.cell hb2 (p := ⟨w.heap.size, 3, none⟩) hlt).trans HX.out.2.2.2.1
  have hc4 := (Below.cell hb2 (p := ⟨w.heap.size, 4, none⟩) hlt).trans HX.out.2.2.2.2
  clear hb2
  refine wp_region_rely (by kernel_rfl) (fun d u w' => match d with
    | 4 => BSl w' (putB k0 1 ++ putB s0 2 ++ putB l0 2) u
    | 9 => u = (.pointer (some ⟨w.heap.size, 0, none⟩) : Value)
    | 10 => u = (.int .i64 k0 : Value)
    | 11 => BSl w' (putB k0 1) u
    | 12 => u = (.pointer (some ⟨w.heap.size, 1, none⟩) : Value)
    | 13 => u = (.int .i64 s0 : Value)
    | 14 => BSl w' (putB k0 1 ++ putB s0 2) u
    | 15 => u = (.pointer (some ⟨w.heap.size, 2, none⟩) : Value)
    | 16 => u = (.int .i64 l0 : Value)
    | 17 => BSl w' (putB k0 1 ++ putB s0 2 ++ putB l0 2) u
    | _ => True) 39 rfl (by decide +kernel) [4] ?_ ?_
  · refine AllSteps.cons (Step.plain rfl fun a w' K hl hK => ?_) ?_
    · have h1 : a.eval (.tmp 1) = (.pointer (some ⟨w.heap.size, 0, none⟩) : Value) := hl.old 1 rfl
      refine wp_val (.pointer (some ⟨w.heap.size, 0, none⟩)) ?_ (hK _ _ (Kept.refl _) rfl)
      clear hl hK
      generalize a.eval = ρ at *
      simp [execOp, go_sem, h1]
    refine AllSteps.cons (Step.plain rfl fun a w' K hl hK => ?_) ?_
    · obtain ⟨_, _, _, h9⟩ := hl.dep 0 9 rfl rfl
      replace h9 : a.eval (.tmp 9) = _ := h9
      have hcell : w'.cell? ⟨w.heap.size, 0, none⟩ = some (.int .i64 k0) := (Below.cell hl.kept HB0.out).trans hc0
      refine wp_val (.int .i64 k0) ?_ (hK _ _ (Kept.refl _) rfl)
      clear hl hK
      generalize a.eval = ρ at *
      simp [execOp, go_sem, h9, hcell]
    refine AllSteps.cons (Step.plain rfl fun a w' K hl hK => ?_) ?_
    · obtain ⟨_, _, _, h10⟩ := hl.dep 1 10 rfl rfl
      replace h10 : a.eval (.tmp 10) = _ := h10
      refine wp_call rfl Try.func20 rfl rfl #[.slice none 0 0, .int .i64 k0, .int .i64 1] (by have hconst : ∀ x, a.eval (.const x) = x := (fun _ => rfl); simp [h10, hconst]) ?_
      refine (put_n none ([]) 0 k0 1 1 rfl w' (Sl.nil _) (Nat.le_refl _) (by simp) (by omega) (by omega)).mono ?_
      rintro e w7 ⟨A7, c7, rfl, hs7, hc7, _, hb7⟩
      exact ⟨_, rfl, hK _ _ hb7 ⟨A7, c7, rfl, hs7, hc7⟩⟩
    refine AllSteps.cons (Step.plain rfl fun a w' K hl hK => ?_) ?_
    · have h1 : a.eval (.tmp 1) = (.pointer (some ⟨w.heap.size, 0, none⟩) : Value) := hl.old 1 rfl
      refine wp_val (.pointer (some ⟨w.heap.size, 1, none⟩)) ?_ (hK _ _ (Kept.refl _) rfl)
      clear hl hK
      generalize a.eval = ρ at *
      simp [execOp, go_sem, h1]
    refine AllSteps.cons (Step.plain rfl fun a w' K hl hK => ?_) ?_
    · obtain ⟨_, _, _, h12⟩ := hl.dep 3 12 rfl rfl
      replace h12 : a.eval (.tmp 12) = _ := h12
      have hcell : w'.cell? ⟨w.heap.size, 1, none⟩ = some (.int .i64 s0) := (Below.cell hl.kept HB0.out).trans hc1
      refine wp_val (.int .i64 s0) ?_ (hK _ _ (Kept.refl _) rfl)
      clear hl hK
      generalize a.eval = ρ at *
      simp [execOp, go_sem, h12, hcell]
    refine AllSteps.cons (Step.plain rfl fun a w' K hl hK => ?_) ?_
    · obtain ⟨_, w1, hk1, ⟨A11, c11, h11, hs11, hc11⟩⟩ := hl.dep 2 11 rfl rfl
      obtain ⟨_, _, _, h13⟩ := hl.dep 4 13 rfl rfl
      replace h13 : a.eval (.tmp 13) = _ := h13
      refine wp_call rfl Try.func20 rfl rfl #[.slice A11 (putB k0 1 : List UInt8).length c11, .int .i64 s0, .int .i64 2] (by have hconst : ∀ x, a.eval (.const x) = x := (fun _ => rfl); simp [h11, h13, hconst]) ?_
      refine (put_n A11 (putB k0 1) c11 s0 2 2 rfl w' (hs11.kept (Nat.le_refl _) hk1) (by omega) (by simp [putB_len]) (by omega) (by omega)).mono ?_
      rintro e w7 ⟨A7, c7, rfl, hs7, hc7, _, hb7⟩
      exact ⟨_, rfl, hK _ _ hb7 ⟨A7, c7, rfl, hs7, hc7⟩⟩
    refine AllSteps.cons (Step.plain rfl fun a w' K hl hK => ?_) ?_
    · have h1 : a.eval (.tmp 1) = (.pointer (some ⟨w.heap.size, 0, none⟩) : Value) := hl.old 1 rfl
      refine wp_val (.pointer (some ⟨w.heap.size, 2, none⟩)) ?_ (hK _ _ (Kept.refl _) rfl)
      clear hl hK
      generalize a.eval = ρ at *
      simp [execOp, go_sem, h1]
    refine AllSteps.cons (Step.plain rfl fun a w' K hl hK => ?_) ?_
    · obtain ⟨_, _, _, h15⟩ := hl.dep 6 15 rfl rfl
      replace h15 : a.eval (.tmp 15) = _ := h15
      have hcell : w'.cell? ⟨w.heap.size, 2, none⟩ = some (.int .i64 l0) := (Below.cell hl.kept HB0.out).trans hc2
      refine wp_val (.int .i64 l0) ?_ (hK _ _ (Kept.refl _) rfl)
      clear hl hK
      generalize a.eval = ρ at *
      simp [execOp, go_sem, h15, hcell]
    refine AllSteps.cons (Step.plain rfl fun a w' K hl hK => ?_) ?_
    · obtain ⟨_, w1, hk1, ⟨A14, c14, h14, hs14, hc14⟩⟩ := hl.dep 5 14 rfl rfl
      obtain ⟨_, _, _, h16⟩ := hl.dep 7 16 rfl rfl
      replace h16 : a.eval (.tmp 16) = _ := h16
      refine wp_call rfl Try.func20 rfl rfl #[.slice A14 (putB k0 1 ++ putB s0 2 : List UInt8).length c14, .int .i64 l0, .int .i64 2] (by have hconst : ∀ x, a.eval (.const x) = x := (fun _ => rfl); simp [h14, h16, hconst]) ?_
      refine (put_n A14 (putB k0 1 ++ putB s0 2) c14 l0 2 2 rfl w' (hs14.kept (Nat.le_refl _) hk1) (by omega) (by simp [putB_len]) (by omega) (by omega)).mono ?_
      rintro e w7 ⟨A7, c7, rfl, hs7, hc7, _, hb7⟩
      exact ⟨_, rfl, hK _ _ hb7 ⟨A7, c7, rfl, hs7, hc7⟩⟩
    refine AllSteps.cons (Step.assign _ rfl rfl fun a w' hl => let ⟨_, _, hk, h⟩ := hl.dep 8 17 rfl rfl; BSl.kept h hk) ?_
    exact AllSteps.nil
  · intro f w3 hk3 hf
    obtain ⟨wq, hq, A3, c3, h4, hs3, hcc3⟩ := hf 4 rfl rfl
    replace hs3 := hs3.kept (Nat.le_refl _) hq
    clear hq
    replace h4 : f 4 = _ := h4
    simp only [Exit.then, fill, dsts, List.filterMap_cons, List.filterMap_nil, List.foldl_cons, List.foldl_nil, Act.put, h4, List.setIfInBounds_toArray, List.set_cons_succ, List.set_cons_zero]
    clear hf h4
    generalize f 9 = u9
    generalize f 10 = u10
    generalize f 11 = u11
    generalize f 12 = u12
    generalize f 13 = u13
    generalize f 14 = u14
    generalize f 15 = u15
    generalize f 16 = u16
    generalize f 17 = u17
    have HS3 := Lib.hid hs3
    have HK3 : Hid (Kept w1 w3) := HK2.out.trans hk3
    replace hc3 := (Below.cell hk3 (p := ⟨w.heap.size, 3, none⟩) HB0.out).trans hc3
    replace hc4 := (Below.cell hk3 (p := ⟨w.heap.size, 4, none⟩) HB0.out).trans hc4
    replace HB0 : Hid (w.heap.size < w3.heap.size) := Nat.lt_of_lt_of_le HB0.out hk3.size
    clear hk3 hs3 hc0 hc1 hc2 HK2
    go_wp2_with fail
    refine wp_region_rely (by kernel_rfl) (fun d u w' => match d with
      | 4 => BSl w' (putB k0 1 ++ putB s0 2 ++ putB l0 2 ++ putB o0 3 ++ putB n0 3) u
      | 18 => u = (.slice A3 (putB k0 1 ++ putB s0 2 ++ putB l0 2 : List UInt8).length c3 : Value)
      | 19 => u = (.pointer (some ⟨w.heap.size, 3, none⟩) : Value)
      | 20 => u = (.int .i64 o0 : Value)
      | 21 => BSl w' (putB k0 1 ++ putB s0 2 ++ putB l0 2 ++ putB o0 3) u
      | 22 => u = (.pointer (some ⟨w.heap.size, 4, none⟩) : Value)
      | 23 => u = (.int .i64 n0 : Value)
      | 24 => BSl w' (putB k0 1 ++ putB s0 2 ++ putB l0 2 ++ putB o0 3 ++ putB n0 3) u
      | _ => True) 39 rfl (by decide +kernel) [4] ?_ ?_
    · refine AllSteps.cons (Step.move _ rfl rfl fun a w' hl => hl.early 7 4 rfl rfl) ?_
      refine AllSteps.cons (Step.plain rfl fun a w' K hl hK => ?_) ?_
      · have h1 : a.eval (.tmp 1) = (.pointer (some ⟨w.heap.size, 0, none⟩) : Value) := hl.old 1 rfl
        refine wp_val (.pointer (some ⟨w.heap.size, 3, none⟩)) ?_ (hK _ _ (Kept.refl _) rfl)
        clear hl hK
        generalize a.eval = ρ at *
        simp [execOp, go_sem, h1]
      refine AllSteps.cons (Step.plain rfl fun a w' K hl hK => ?_) ?_
      · obtain ⟨_, _, _, h19⟩ := hl.dep 1 19 rfl rfl
        replace h19 : a.eval (.tmp 19) = _ := h19
        have hcell : w'.cell? ⟨w.heap.size, 3, none⟩ = some (.int .i64 o0) := (Below.cell hl.kept HB0.out).trans hc3
        refine wp_val (.int .i64 o0) ?_ (hK _ _ (Kept.refl _) rfl)
        clear hl hK
        generalize a.eval = ρ at *
        simp [execOp, go_sem, h19, hcell]
      refine AllSteps.cons (Step.plain rfl fun a w' K hl hK => ?_) ?_
      · obtain ⟨_, _, _, h18⟩ := hl.dep 0 18 rfl rfl
        replace h18 : a.eval (.tmp 18) = _ := h18
        obtain ⟨_, _, _, h20⟩ := hl.dep 2 20 rfl rfl
        replace h20 : a.eval (.tmp 20) = _ := h20
        refine wp_call rfl Try.func20 rfl rfl #[.slice A3 (putB k0 1 ++ putB s0 2 ++ putB l0 2 : List UInt8).length c3, .int .i64 o0, .int .i64 3] (by have hconst : ∀ x, a.eval (.const x) = x := (fun _ => rfl); simp [h18, h20, hconst]) ?_
        refine (put_n A3 (putB k0 1 ++ putB s0 2 ++ putB l0 2) c3 o0 3 3 rfl w' (HS3.out.kept (Nat.le_refl _) hl.kept) (by omega) (by simp [putB_len]) (by omega) (by omega)).mono ?_
        rintro e w7 ⟨A7, c7, rfl, hs7, hc7, _, hb7⟩
        exact ⟨_, rfl, hK _ _ hb7 ⟨A7, c7, rfl, hs7, hc7⟩⟩
      refine AllSteps.cons (Step.plain rfl fun a w' K hl hK => ?_) ?_
      · have h1 : a.eval (.tmp 1) = (.pointer (some ⟨w.heap.size, 0, none⟩) : Value) := hl.old 1 rfl
        refine wp_val (.pointer (some ⟨w.heap.size, 4, none⟩)) ?_ (hK _ _ (Kept.refl _) rfl)
        clear hl hK
        generalize a.eval = ρ at *
        simp [execOp, go_sem, h1]
      refine AllSteps.cons (Step.plain rfl fun a w' K hl hK => ?_) ?_
      · obtain ⟨_, _, _, h22⟩ := hl.dep 4 22 rfl rfl
        replace h22 : a.eval (.tmp 22) = _ := h22
        have hcell : w'.cell? ⟨w.heap.size, 4, none⟩ = some (.int .i64 n0) := (Below.cell hl.kept HB0.out).trans hc4
        refine wp_val (.int .i64 n0) ?_ (hK _ _ (Kept.refl _) rfl)
        clear hl hK
        generalize a.eval = ρ at *
        simp [execOp, go_sem, h22, hcell]
      refine AllSteps.cons (Step.plain rfl fun a w' K hl hK => ?_) ?_
      · obtain ⟨_, w1, hk1, ⟨A21, c21, h21, hs21, hc21⟩⟩ := hl.dep 3 21 rfl rfl
        obtain ⟨_, _, _, h23⟩ := hl.dep 5 23 rfl rfl
        replace h23 : a.eval (.tmp 23) = _ := h23
        refine wp_call rfl Try.func20 rfl rfl #[.slice A21 (putB k0 1 ++ putB s0 2 ++ putB l0 2 ++ putB o0 3 : List UInt8).length c21, .int .i64 n0, .int .i64 3] (by have hconst : ∀ x, a.eval (.const x) = x := (fun _ => rfl); simp [h21, h23, hconst]) ?_
        refine (put_n A21 (putB k0 1 ++ putB s0 2 ++ putB l0 2 ++ putB o0 3) c21 n0 3 3 rfl w' (hs21.kept (Nat.le_refl _) hk1) (by omega) (by simp [putB_len]) (by omega) (by omega)).mono ?_
        rintro e w7 ⟨A7, c7, rfl, hs7, hc7, _, hb7⟩
        exact ⟨_, rfl, hK _ _ hb7 ⟨A7, c7, rfl, hs7, hc7⟩⟩
      refine AllSteps.cons (Step.assign _ rfl rfl fun a w' hl => let ⟨_, _, hk, h⟩ := hl.dep 6 24 rfl rfl; BSl.kept h hk) ?_
      exact AllSteps.nil
    · intro f w4 hk4 hf
      obtain ⟨wq, hq, A4, c4, h4, hs4, hcc4⟩ := hf 4 rfl rfl
      replace hs4 := hs4.kept (Nat.le_refl _) hq
      clear hq
      replace h4 : f 4 = _ := h4
      simp only [Exit.then, fill, dsts, List.filterMap_cons, List.filterMap_nil, List.foldl_cons, List.foldl_nil, Act.put, h4, List.setIfInBounds_toArray, List.set_cons_succ, List.set_cons_zero]
      clear hf h4
      have HK4 : Hid (Kept w1 w4) := HK3.out.trans hk4
      clear hk4 HS3 hc3 hc4 HK3
      obtain ⟨H, hH⟩ : ∃ H, H = hdrB k0 s0 l0 o0 n0 := ⟨_, rfl⟩
      have hH2 : putB k0 1 ++ putB s0 2 ++ putB l0 2 ++ putB o0 3 ++ putB n0 3 = H := hH.symm
      have hHl : H.length = 11 := by rw [hH, hdrB_len]
      rw [hH2] at hs4 hcc4 ⊢
      have HS4 := Lib.hid hs4
      have HHL := Lib.hid hHl
      have HH := Lib.hid hH
      clear hs4 hH hH2
      go_wp2_with fail
      go_loopw [25, 4] (fun j b wr => ∃ k : Nat, k ≤ 32 ∧ j = .int .i64 (k : Int) ∧ BSl wr (H ++ ptrB (ps.take k)) b ∧ Kept w1 wr) (fun j _ _ => 32 - (intOf j).toNat)
      case atStart => exact ⟨0, by omega, rfl, ⟨A4, c4, by simp [ptrB], by simpa [ptrB] using HS4.out, by simpa [ptrB] using hcc4⟩, HK4.out⟩
      case round =>
        obtain ⟨k, hk, rfl, ⟨A5, c5, rfl, hs5, hcc5⟩, hkr⟩ := hrel
        by_cases hlt2 : k < 32
        · have hltI : (k : Int) < 32 := by omega
          obtain ⟨p, hp⟩ : ∃ p, ps[k]? = some p := ⟨ps[k], List.getElem?_eq_getElem (by omega)⟩
          have hcpk := (Below.cell hkr (p := ⟨w.heap.size, 5 + k, none⟩) hlt).trans (HC.out k p hp)
          obtain ⟨hp0, hp1⟩ := HPB.out k p hp
          have HN := Lib.hid (ptrB_next hp)
          have HS5 := Lib.hid hs5
          have HKR := Lib.hid hkr
          have hll : (H ++ ptrB (ps.take k)).length + 8 ≤ 140737488355328 := by
            rw [List.length_append, ptrB_len, HHL.out, List.length_take]
            omega
          obtain ⟨M, hM⟩ : ∃ M, M = H ++ ptrB (ps.take k) := ⟨_, rfl⟩
          rw [← hM] at HS5 hcc5 hll ⊢
          have HM := Lib.hid hM
          clear hp hs5 hkr hM
          go_wp2_with (go_at_call 20; refine (put_n A5 M c5 p 2 2 rfl wr HS5.out hcc5 hll hp0 (by omega)).mono ?_; rintro e w6 ⟨A6, c6, rfl, hs6, hcc6, _, hb6⟩)
          go_roundw
          case measure => simp [intOf]; omega
          case rel =>
            have e : M ++ putB p 2 = H ++ ptrB (ps.take (k + 1)) := by rw [HM.out, HN.out, List.append_assoc]
            rw [e] at hs6 hcc6
            exact ⟨k + 1, by omega, by simp, ⟨A6, c6, by rw [← e, List.length_append], hs6, hcc6⟩, HKR.out.trans hb6⟩
        · have hge : (32 : Int) ≤ (k : Int) := by omega
          have hk32 : k = 32 := by omega
          obtain ⟨M, hM⟩ : ∃ M, M = H ++ ptrB (ps.take k) := ⟨_, rfl⟩
          have hMl : M.length = 75 := by
            rw [hM, List.length_append, ptrB_len, HHL.out, List.length_take]
            omega
          have hMe : M ++ List.replicate ((128 : Int).toNat - M.length) 0 = blk k0 s0 l0 o0 n0 ps := by
            rw [hMl, hM, HH.out, List.take_of_length_le (by omega)]
            rfl
          rw [← hM] at hs5 hcc5 ⊢
          have HS5 := Lib.hid hs5
          have hbw := Below.trans HKW.out (Below.mono (show Below w1.heap.size w1 wr from hkr) (Nat.le_of_lt hlt))
          have hsw : w.heap.size ≤ wr.heap.size := hbw.size
          have HKR := Lib.hid hbw
          have HSW := Lib.hid hsw
          clear hbw hsw
          have HME := Lib.hid hMe
          have hMI : (M.length : Int) < 128 := by omega
          clear hs5 hkr hM hMe hk32 hMl
          go_wp2_with (go_at_call 21; refine (pad_own A5 M c5 128 wr HS5.out hcc5 (by omega) (by omega)).mono ?_; rintro e w6 ⟨A6, c6, rfl, hs6, hb6⟩)
          go_ret2
          exact reso_mk HME.out (by simp) hs6 HSW.out (HKR.out.trans (hb6.mono HSW.out))
end Go.Proofs.Ytbhpkknimjmpjaa.In
