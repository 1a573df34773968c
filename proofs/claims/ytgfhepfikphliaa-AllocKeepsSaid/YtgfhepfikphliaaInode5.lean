/-
  The document's Check of any inode.
-/
import Derived.Test.YtgfhepfikphliaaInode4
namespace Go.Proofs.Ytgfhepfikphliaa.In
open Go.RowKit Wd
set_option linter.unusedVariables false

set_option maxRecDepth 100000 in
set_option maxHeartbeats 400000 in
theorem rcheck_zero (s0 l0 o0 n0 : Int) (ps : List Int) (hps : ps.length = 32) (w : World) : Calls Try.prog 13 #[.agg (ints (0 :: s0 :: l0 :: o0 :: n0 :: ps))] w fun e w' => e = .returned (.bool (chk 0 s0 l0 o0 n0 ps)) ∧ Below w.heap.size w w' := by
  have hc : chk 0 s0 l0 o0 n0 ps = ((0 :: s0 :: l0 :: o0 :: n0 :: ps) == List.replicate 37 0) := by simp [chk]
  rw [hc]
  have hlen : (0 :: s0 :: l0 :: o0 :: n0 :: ps).length = 37 := by simp [hps]
  have hcell : (w.alloc (.cells (ints (0 :: s0 :: l0 :: o0 :: n0 :: ps)) 24)).cell? ⟨w.heap.size, 0, none⟩ = some (.int .i64 0) := by
    rw [cell_of_row _ _ 0 _ _ (0, 0) (heap_alloc_new w _)]; rfl
  have hrange : (w.alloc (.cells (ints (0 :: s0 :: l0 :: o0 :: n0 :: ps)) 24)).rangeAt w.heap.size 0 ((0 :: s0 :: l0 :: o0 :: n0 :: ps).map (Value.int .i64)) := by
    intro j v hj
    rw [cell_of_row _ _ _ _ _ (0, 0) (heap_alloc_new w _), Nat.zero_add]
    simpa [ints] using hj
  have heq := run_eql_ino
  generalize (0 :: s0 :: l0 :: o0 :: n0 :: ps) = xs at *
  have HL := Lib.hid hlen
  have HR := Lib.hid hrange
  have HE := Lib.hid heq
  clear hlen hrange heq
  go_enter Try.func13, Try.ntmps13
  go_wp2_with (first
    | ((with_reducible show wpList _ _ _ (⟨some 6, _, _, _, _, _⟩ :: _) _ _); refine wpList_load_mid rfl 24 _ rfl w.heap.size 0 rfl _ _ HR.out Try.underlying24 rfl (by rw [List.length_map, HL.out]; kernel_rfl) ?_)
    | ((with_reducible show wpList _ _ _ (⟨some 7, _, _, _, _, _⟩ :: _) _ _); refine wpList_val rfl (.agg (ints (List.replicate 37 0))) _ (by unfold execOp; simp [run_build_none]) ?_)
    | ((with_reducible show wpList _ _ _ (⟨some 8, _, _, _, _, _⟩ :: _) _ _); refine wpList_eql_ino rfl rfl xs (List.replicate 37 0) rfl rfl HL.out (by simp) ?_))
  go_ret
  exact ⟨rfl, (Below.refl _ _).alloc (Nat.le_refl _) _⟩

set_option maxRecDepth 100000 in
set_option maxHeartbeats 1600000 in
theorem rcheck_bad (k0 s0 l0 o0 n0 : Int) (ps : List Int) (h0 : ¬ k0 = 0) (w : World) (hb : hdr k0 s0 l0 o0 n0 = false) :
    Calls Try.prog 13 #[.agg (ints (k0 :: s0 :: l0 :: o0 :: n0 :: ps))] w fun e w' => e = .returned (.bool false) ∧ Below w.heap.size w w' := by
  have hc0 := ino_cell w (k0 :: s0 :: l0 :: o0 :: n0 :: ps) 24 0 k0 rfl
  have hc1 := ino_cell w (k0 :: s0 :: l0 :: o0 :: n0 :: ps) 24 1 s0 rfl
  have hc2 := ino_cell w (k0 :: s0 :: l0 :: o0 :: n0 :: ps) 24 2 l0 rfl
  have hc3 := ino_cell w (k0 :: s0 :: l0 :: o0 :: n0 :: ps) 24 3 o0 rfl
  have hc4 := ino_cell w (k0 :: s0 :: l0 :: o0 :: n0 :: ps) 24 4 n0 rfl
  generalize (k0 :: s0 :: l0 :: o0 :: n0 :: ps) = xs at *
  have hcases : (inB k0 1 2 = false) ∨ (inB k0 1 2 = true ∧ inB s0 0 4096 = false) ∨ (inB k0 1 2 = true ∧ inB s0 0 4096 = true ∧ inB l0 0 10000 = false) ∨ (inB k0 1 2 = true ∧ inB s0 0 4096 = true ∧ inB l0 0 10000 = true ∧ inB o0 1 16777215 = false)
      ∨ (inB k0 1 2 = true ∧ inB s0 0 4096 = true ∧ inB l0 0 10000 = true ∧ inB o0 1 16777215 = true ∧ inB n0 0 16777215 = false)
      ∨ (inB k0 1 2 = true ∧ inB s0 0 4096 = true ∧ inB l0 0 10000 = true ∧ inB o0 1 16777215 = true ∧ inB n0 0 16777215 = true ∧ k0 = 2 ∧ ¬ l0 = 1)
      ∨ (inB k0 1 2 = true ∧ inB s0 0 4096 = true ∧ inB l0 0 10000 = true ∧ inB o0 1 16777215 = true ∧ inB n0 0 16777215 = true ∧ k0 = 2 ∧ l0 = 1 ∧ ¬ Int.tmod s0 128 = 0) := by
    unfold hdr at hb
    cases e1 : inB k0 1 2
    · simp
    cases e2 : inB s0 0 4096
    · simp
    cases e3 : inB l0 0 10000
    · simp
    cases e4 : inB o0 1 16777215
    · simp
    cases e5 : inB n0 0 16777215
    · simp
    simp only [e1, e2, e3, e4, e5, Bool.true_and] at hb
    by_cases h2 : k0 = 2
    · by_cases h1 : l0 = 1
      · subst h2; subst h1
        have hs : 0 ≤ s0 := by simp [inB] at e2; exact e2.1
        simp at hb
        have : Int.tmod s0 128 = s0 % 128 := Int.tmod_eq_emod_of_nonneg hs
        simp [this]
        simp [hb]
      · simp [h2, h1]
    · simp [h2] at hb
  clear hb
  rcases hcases with e1 | ⟨e1, e2⟩ | ⟨e1, e2, e3⟩ | ⟨e1, e2, e3, e4⟩ | ⟨e1, e2, e3, e4, e5⟩ | ⟨e1, e2, e3, e4, e5, h2, h1⟩ | ⟨e1, e2, e3, e4, e5, h2, h1, hr⟩
  · have n1 : ¬ k0 = 1 := by rintro rfl; simp [inB] at e1
    have n2 : ¬ k0 = 2 := by rintro rfl; simp [inB] at e1
    clear e1
    go_enter Try.func13, Try.ntmps13
    go_wp2_with (go_at_call 26; refine (rin_any _ _ _ _).mono ?_; rintro e w1 ⟨rfl, rfl⟩)
    go_ret
    exact ⟨rfl, (Below.refl _ _).alloc (Nat.le_refl _) _⟩
  rotate_left 4
  · subst h2
    clear e1
    go_enter Try.func13, Try.ntmps13
    go_wp2_with (go_at_call 26; refine (rin_any _ _ _ _).mono ?_; rintro e w1 ⟨rfl, rfl⟩)
    go_ret
    exact ⟨rfl, (Below.refl _ _).alloc (Nat.le_refl _) _⟩
  · subst h2; subst h1
    clear e1
    go_enter Try.func13, Try.ntmps13
    go_wp2_with (go_at_call 26; refine (rin_any _ _ _ _).mono ?_; rintro e w1 ⟨rfl, rfl⟩)
    go_ret
    exact ⟨rfl, (Below.refl _ _).alloc (Nat.le_refl _) _⟩
  all_goals
    have hk : k0 = 1 ∨ k0 = 2 := by simp [inB] at e1; omega
    clear e1
    rcases hk with rfl | rfl
  all_goals
    go_enter Try.func13, Try.ntmps13
    go_wp2_with (go_at_call 26; refine (rin_any _ _ _ _).mono ?_; rintro e w1 ⟨rfl, rfl⟩)
    go_ret
    exact ⟨rfl, (Below.refl _ _).alloc (Nat.le_refl _) _⟩

set_option maxRecDepth 100000 in
set_option maxHeartbeats 1600000 in
theorem rcheck_good (k0 s0 l0 o0 n0 : Int) (ps : List Int) (hps : ps.length = 32) (h0 : ¬ k0 = 0) (w : World) (hb : hdr k0 s0 l0 o0 n0 = true) :
    Calls Try.prog 13 #[.agg (ints (k0 :: s0 :: l0 :: o0 :: n0 :: ps))] w fun e w' => e = .returned (.bool ((List.range 32).all (okAt (k0 == 2) s0 ps))) ∧ Below w.heap.size w w' := by
  have hc0 := ino_cell w (k0 :: s0 :: l0 :: o0 :: n0 :: ps) 24 0 k0 rfl
  have hc1 := ino_cell w (k0 :: s0 :: l0 :: o0 :: n0 :: ps) 24 1 s0 rfl
  have hc2 := ino_cell w (k0 :: s0 :: l0 :: o0 :: n0 :: ps) 24 2 l0 rfl
  have hc3 := ino_cell w (k0 :: s0 :: l0 :: o0 :: n0 :: ps) 24 3 o0 rfl
  have hc4 := ino_cell w (k0 :: s0 :: l0 :: o0 :: n0 :: ps) 24 4 n0 rfl
  have hlen : (k0 :: s0 :: l0 :: o0 :: n0 :: ps).length = 37 := by simp [hps]
  have hrange : (w.alloc (.cells (ints (k0 :: s0 :: l0 :: o0 :: n0 :: ps)) 24)).rangeAt w.heap.size 0 ((k0 :: s0 :: l0 :: o0 :: n0 :: ps).map (Value.int .i64)) := by
    intro j v hj
    rw [cell_of_row _ _ _ _ _ (0, 0) (heap_alloc_new w _), Nat.zero_add]
    simpa [ints] using hj
  have e1 : inB k0 1 2 = true := by revert hb; simp [hdr]; intros; assumption
  have e2 : inB s0 0 4096 = true := by revert hb; simp [hdr]; intros; assumption
  have e3 : inB l0 0 10000 = true := by revert hb; simp [hdr]; intros; assumption
  have e4 : inB o0 1 16777215 = true := by revert hb; simp [hdr]; intros; assumption
  have e5 : inB n0 0 16777215 = true := by revert hb; simp [hdr]; intros; assumption
  have hs0 : 0 ≤ s0 ∧ s0 ≤ 4096 := by simpa [inB] using e2
  have hptrs := fun w' => ptrs_any k0 s0 l0 o0 n0 ps hps w' hs0.1 hs0.2
  have hcases : k0 = 1 ∨ (k0 = 2 ∧ l0 = 1 ∧ Int.tmod s0 128 = 0) := by
    simp only [hdr, e1, e2, e3, e4, e5, Bool.true_and] at hb
    have hk : 1 ≤ k0 ∧ k0 ≤ 2 := by simpa [inB] using e1
    by_cases h2 : k0 = 2
    · right
      subst h2
      simp at hb
      refine ⟨rfl, hb.1, ?_⟩
      rw [Int.tmod_eq_emod_of_nonneg hs0.1]
      omega
    · left; omega
  clear hb hs0 e1
  generalize (List.range 32).all (okAt (k0 == 2) s0 ps) = D at *
  generalize (k0 :: s0 :: l0 :: o0 :: n0 :: ps) = xs at *
  have HP := Lib.hid hptrs
  have HL := Lib.hid hlen
  have HR := Lib.hid hrange
  clear hptrs hlen hrange
  rcases hcases with h2 | ⟨h2, h1, hr⟩
  · subst h2
    go_enter Try.func13, Try.ntmps13
    go_wp2_with (first
      | (go_at_call 26; refine (rin_any _ _ _ _).mono ?_; rintro e w2 ⟨rfl, rfl⟩)
      | ((with_reducible show wpList _ _ _ (⟨some 55, _, _, _, _, _⟩ :: _) _ _); refine wpList_load_mid rfl 24 _ rfl w.heap.size 0 rfl _ _ HR.out Try.underlying24 rfl (by rw [List.length_map, HL.out]; kernel_rfl) ?_)
      | (go_at_call 27; refine (HP.out _).mono ?_; rintro e w2 ⟨rfl, hb2⟩))
    go_ret
    exact ⟨rfl, ((Below.refl _ _).alloc (Nat.le_refl _) _).trans (hb2.mono (by simp))⟩
  · subst h2; subst h1
    go_enter Try.func13, Try.ntmps13
    go_wp2_with (first
      | (go_at_call 26; refine (rin_any _ _ _ _).mono ?_; rintro e w2 ⟨rfl, rfl⟩)
      | ((with_reducible show wpList _ _ _ (⟨some 55, _, _, _, _, _⟩ :: _) _ _); refine wpList_load_mid rfl 24 _ rfl w.heap.size 0 rfl _ _ HR.out Try.underlying24 rfl (by rw [List.length_map, HL.out]; kernel_rfl) ?_)
      | (go_at_call 27; refine (HP.out _).mono ?_; rintro e w2 ⟨rfl, hb2⟩))
    go_ret
    exact ⟨rfl, ((Below.refl _ _).alloc (Nat.le_refl _) _).trans (hb2.mono (by simp))⟩

theorem rcheck_any (k0 s0 l0 o0 n0 : Int) (ps : List Int) (hps : ps.length = 32) (w : World) : Calls Try.prog 13 #[.agg (ints (k0 :: s0 :: l0 :: o0 :: n0 :: ps))] w fun e w' => e = .returned (.bool (chk k0 s0 l0 o0 n0 ps)) ∧ Below w.heap.size w w' := by
  by_cases h0 : k0 = 0
  · subst h0
    exact rcheck_zero s0 l0 o0 n0 ps hps w
  · cases hh : hdr k0 s0 l0 o0 n0
    · have : chk k0 s0 l0 o0 n0 ps = false := by simp [chk, h0, hh]
      rw [this]
      exact rcheck_bad k0 s0 l0 o0 n0 ps h0 w hh
    · have : chk k0 s0 l0 o0 n0 ps = (List.range 32).all (okAt (k0 == 2) s0 ps) := by simp [chk, h0, hh]
      rw [this]
      exact rcheck_good k0 s0 l0 o0 n0 ps hps h0 w hh
end Go.Proofs.Ytgfhepfikphliaa.In
