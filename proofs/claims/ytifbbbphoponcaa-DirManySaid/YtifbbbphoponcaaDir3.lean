/-
  dir: may, and the document's.
-/
import Derived.Test.YtifbbbphoponcaaDir2
import Derived.Lib.Hide
namespace Go.Proofs.Ytifbbbphoponcaa.Dr
open Go.RowKit Wd
set_option linter.unusedVariables false

theorem may_any (x : En) (h : goodE x) (w : World) : Calls Try.prog 40 #[ev x] w fun e w' => e = .returned (.bool (mayB x)) ∧ Below w.heap.size w w' := by
  obtain ⟨s, z⟩ := x
  have HN := Lib.hid (fun w => name_any s h.1 w)
  obtain ⟨h1, h2, h3⟩ := h
  unfold mayB ev
  simp only at *
  generalize nameB s = b at *
  clear h1
  cases b
  · go_enter Try.func40, Try.ntmps40
    go_wp2_with fail
    refine (HN.out _).mono ?_
    rintro e w' ⟨rfl, rfl⟩
    go_wp2_with fail
    go_ret
    exact ⟨rfl, (Below.refl _ _).alloc (Nat.le_refl _) _⟩
  · by_cases h4 : 1 ≤ z
    · rw [decide_eq_true h4]
      go_enter Try.func40, Try.ntmps40
      go_wp2_with fail
      refine (HN.out _).mono ?_
      rintro e w' ⟨rfl, rfl⟩
      go_wp2_with fail
      go_ret
      exact ⟨by simp, (Below.refl _ _).alloc (Nat.le_refl _) _⟩
    · rw [decide_eq_false h4]
      have h4' : z < 1 := by omega
      go_enter Try.func40, Try.ntmps40
      go_wp2_with fail
      refine (HN.out _).mono ?_
      rintro e w' ⟨rfl, rfl⟩
      go_wp2_with fail
      go_ret
      exact ⟨by simp, (Below.refl _ _).alloc (Nat.le_refl _) _⟩
theorem entry_any (x : En) (h : goodE x) (w : World) : Calls Try.prog 32 #[ev x] w fun e w' => e = .returned (.bool (mayB x)) ∧ Below w.heap.size w w' := by
  obtain ⟨s, z⟩ := x
  have HN := Lib.hid (fun w => rname_any s h.1 w)
  obtain ⟨h1, h2, h3⟩ := h
  unfold mayB ev
  simp only at *
  generalize nameB s = b at *
  clear h1
  cases b
  · go_enter Try.func32, Try.ntmps32
    go_wp2_with fail
    refine (HN.out _).mono ?_
    rintro e w' ⟨rfl, rfl⟩
    go_wp2_with fail
    go_ret
    exact ⟨rfl, (Below.refl _ _).alloc (Nat.le_refl _) _⟩
  · by_cases h4 : 1 ≤ z
    · rw [decide_eq_true h4]
      go_enter Try.func32, Try.ntmps32
      go_wp2_with fail
      refine (HN.out _).mono ?_
      rintro e w' ⟨rfl, rfl⟩
      go_wp2_with fail
      go_ret
      exact ⟨by simp, (Below.refl _ _).alloc (Nat.le_refl _) _⟩
    · rw [decide_eq_false h4]
      have h4' : z < 1 := by omega
      go_enter Try.func32, Try.ntmps32
      go_wp2_with fail
      refine (HN.out _).mono ?_
      rintro e w' ⟨rfl, rfl⟩
      go_wp2_with fail
      go_ret
      exact ⟨by simp, (Below.refl _ _).alloc (Nat.le_refl _) _⟩
end Go.Proofs.Ytifbbbphoponcaa.Dr
