/-
  Plain law for 'AllocKeeps', first part: the next block that an inode has not.
-/
import Derived.Test.YtgfhepfikphliaaKeep0
namespace Go.Proofs.Ytgfhepfikphliaa.Al
open Go.RowKit Wd In
set_option linter.unusedVariables false

theorem nodup_le : ∀ (m : List Int), m.Nodup → ∀ l : List Int, (∀ x ∈ m, x ∈ l) → m.length ≤ l.length
  | [], _, l, _ => Nat.zero_le _
  | x :: m, hn, l, h => by
    obtain ⟨h1, h2⟩ := List.nodup_cons.1 hn
    have hx := h x (by simp)
    have ih := nodup_le m h2 (l.erase x) fun y hy => (List.mem_erase_of_ne (fun e => h1 (by rw [← e]; exact hy))).2 (h y (by simp [hy]))
    rw [List.length_erase_of_mem hx] at ih
    have : 0 < l.length := List.length_pos_of_mem hx
    simp only [List.length_cons]
    omega
theorem has_mem {xs : List Int} (hl : xs.length = 37) (b : Int) : hasP xs b = true ↔ b ∈ xs.drop 5 := by
  unfold hasP hasTo
  rw [List.any_eq_true]
  constructor
  · rintro ⟨k, hk, h⟩
    rw [List.mem_range] at hk
    have e : xs.getD (5 + k) 0 = b := by simpa using h
    refine List.mem_of_getElem? (i := k) ?_
    rw [List.getElem?_drop, ← e, List.getD_eq_getElem?_getD, List.getElem?_eq_getElem (by omega)]
    rfl
  · intro h
    obtain ⟨k, hk⟩ := List.getElem?_of_mem h
    have hlt := (List.getElem?_eq_some_iff.1 hk).1
    rw [List.length_drop] at hlt
    rw [List.getElem?_drop] at hk
    exact ⟨k, List.mem_range.2 (by omega), by rw [List.getD_eq_getElem?_getD, hk]; simp⟩
/-- the least block from a on that the inode has not -/
def nxF (old : List Int) : Nat → Int → Int
  | 0, a => a
  | f + 1, a => if hasP old a = true then nxF old f (a + 1) else a
theorem nxF_spec (old : List Int) : ∀ (f : Nat) (a : Int), (∃ i : Nat, i < f ∧ hasP old (a + i) = false) → hasP old (nxF old f a) = false ∧ a ≤ nxF old f a ∧ nxF old f a < a + f ∧ ∀ b, a ≤ b → b < nxF old f a → hasP old b = true
  | 0, a, ⟨i, hi, _⟩ => absurd hi (Nat.not_lt_zero i)
  | f + 1, a, ⟨i, hi, h⟩ => by
    unfold nxF
    by_cases h0 : hasP old a = true
    · rw [if_pos h0]
      have hi0 : i ≠ 0 := fun e => by
        subst e
        rw [show a + ((0 : Nat) : Int) = a by omega, h0] at h
        cases h
      obtain ⟨q1, q2, q3, q4⟩ := nxF_spec old f (a + 1) ⟨i - 1, by omega, by rw [show a + 1 + ((i - 1 : Nat) : Int) = a + i by omega]; exact h⟩
      refine ⟨q1, by omega, by omega, fun b hb hb2 => ?_⟩
      by_cases he : b = a
      · rw [he]; exact h0
      · exact q4 b (by omega) hb2
    · rw [if_neg h0]
      exact ⟨by simpa using h0, by omega, by omega, fun b hb hb2 => absurd hb (by omega)⟩
def nx (old : List Int) (a : Int) : Int := nxF old 33 a
theorem nx_spec {old : List Int} (hl : old.length = 37) (a : Int) : hasP old (nx old a) = false ∧ a ≤ nx old a ∧ nx old a < a + 33 ∧ ∀ b, a ≤ b → b < nx old a → hasP old b = true := by
  refine nxF_spec old 33 a ?_
  cases hex : (List.range 33).any fun i => !hasP old (a + (i : Nat)) with
  | true =>
    obtain ⟨i, hi, h⟩ := List.any_eq_true.1 hex
    exact ⟨i, List.mem_range.1 hi, by simpa using h⟩
  | false =>
    exfalso
    have hall : ∀ i : Nat, i < 33 → a + i ∈ old.drop 5 := fun i hi => by
      have := List.any_eq_false.1 hex i (List.mem_range.2 hi)
      exact (has_mem hl _).1 (by simpa using this)
    have hle := nodup_le ((List.range 33).map fun i : Nat => a + (i : Int)) (by
      rw [List.nodup_iff_pairwise_ne, List.pairwise_map]
      exact (List.pairwise_lt_range (n := 33)).imp fun h => by omega) (old.drop 5) (fun x hx => by
      obtain ⟨i, hi, rfl⟩ := List.mem_map.1 hx
      exact hall i (List.mem_range.1 hi))
    rw [List.length_map, List.length_range, List.length_drop, hl] at hle
    omega
end Go.Proofs.Ytgfhepfikphliaa.Al
