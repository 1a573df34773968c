/-
  plain laws of the free blocks and their stretches.
-/
import Derived.Test.YtipdaecihfkonaaBit3
namespace Go.Proofs.Ytipdaecihfkonaa.Bt
open Fl Sp Go.RowKit Wd
set_option linter.unusedVariables false
def lastM (T : List Int) : Nat → Int
  | 0 => -1
  | i + 1 => T.getD i (-1)
theorem lastM_append (a b : List Int) : ∀ i, i ≤ a.length → lastM (a ++ b) i = lastM a i
  | 0, _ => rfl
  | i + 1, h => by
    show (a ++ b).getD i (-1) = a.getD i (-1)
    rw [List.getD_eq_getElem?_getD, List.getD_eq_getElem?_getD, List.getElem?_append_left (by omega)]
theorem lastM_snoc (a : List Int) (x : Int) : lastM (a ++ [x]) (a.length + 1) = x := by
  show (a ++ [x]).getD a.length (-1) = x
  rw [List.getD_eq_getElem?_getD, List.getElem?_append_right (Nat.le_refl _)]
  simp
theorem lastM_take (a : List Int) (r : Nat) : ∀ i, i ≤ (a.take r).length → lastM (a.take r) i = lastM a i := by
  intro i h
  have := lastM_append (a.take r) (a.drop r) i h
  rw [List.take_append_drop] at this
  exact this.symm
theorem frees_last (L : List UInt8) (blocks : Int) : ∀ k : Nat, (∀ i, i ≤ (frees L blocks k).length → -1 ≤ lastM (frees L blocks k) i ∧ lastM (frees L blocks k) i < (k : Int)) ∧ ∀ j : Nat, lastM (frees L blocks k) (frees L blocks k).length < (j : Int) → j < k → fr L blocks j = false
  | 0 => by
    have e : frees L blocks 0 = [] := rfl
    rw [e]
    refine ⟨fun i h => ?_, fun j _ h => by omega⟩
    obtain rfl : i = 0 := by simpa using h
    show -1 ≤ (-1 : Int) ∧ (-1 : Int) < ((0 : Nat) : Int)
    omega
  | k + 1 => by
    obtain ⟨h1, h2⟩ := frees_last L blocks k
    rw [frees_succ]
    cases hf : fr L blocks k
    · rw [if_neg (by decide)]
      refine ⟨fun i h => ?_, fun j h hj => ?_⟩
      · have := h1 i h; omega
      · by_cases hjk : j = k
        · rw [hjk, hf]
        · exact h2 j h (by omega)
    · rw [if_pos rfl]
      refine ⟨fun i h => ?_, fun j h hj => ?_⟩
      · by_cases hi : i ≤ (frees L blocks k).length
        · rw [lastM_append _ _ _ hi]
          have := h1 i hi; omega
        · obtain rfl : i = (frees L blocks k).length + 1 := by simp at h; omega
          rw [lastM_snoc]; omega
      · rw [List.length_append, List.length_singleton, lastM_snoc] at h
        omega
/-- between one free block and the next all are used -/
theorem frees_gap (L : List UInt8) (blocks : Int) : ∀ (k i : Nat) (x : Int), (frees L blocks k)[i]? = some x → 0 ≤ x ∧ x < (k : Int) ∧ fr L blocks x.toNat = true ∧ lastM (frees L blocks k) i < x ∧ ∀ j : Nat, lastM (frees L blocks k) i < (j : Int) → (j : Int) < x → fr L blocks j = false
  | 0, i, x, h => by simp [frees] at h
  | k + 1, i, x, h => by
    obtain ⟨h1, h2⟩ := frees_last L blocks k
    rw [frees_succ] at h ⊢
    cases hf : fr L blocks k
    · rw [hf, if_neg (by decide)] at h
      rw [if_neg (by decide)]
      obtain ⟨a, b, c, d⟩ := frees_gap L blocks k i x h
      exact ⟨a, by omega, c, d⟩
    · rw [hf, if_pos rfl] at h
      rw [if_pos rfl]
      by_cases hi : i < (frees L blocks k).length
      · rw [List.getElem?_append_left hi] at h
        obtain ⟨a, b, c, d⟩ := frees_gap L blocks k i x h
        rw [lastM_append _ _ _ (by omega)]
        exact ⟨a, by omega, c, d⟩
      · rw [List.getElem?_append_right (by omega)] at h
        have hi2 : i = (frees L blocks k).length := by
          have := (List.getElem?_eq_some_iff.1 h).1
          simp at this
          omega
        subst hi2
        simp at h
        subst h
        rw [lastM_append _ _ _ (Nat.le_refl _)]
        refine ⟨by omega, by omega, by simpa using hf, (h1 _ (Nat.le_refl _)).2, fun j h hj => h2 j h (by omega)⟩
theorem fr_used {L : List UInt8} {blocks : Int} {j : Nat} (h : fr L blocks j = false) (hj : (j : Int) < blocks) : usedB L (j : Int) = true := by
  unfold fr at h
  simp at h
  exact h hj
theorem fr_free {L : List UInt8} {blocks : Int} {j : Nat} (h : fr L blocks j = true) : (j : Int) < blocks ∧ usedB L (j : Int) = false := by
  unfold fr at h
  simpa using h
/-- what is taken: free, one behind the other, with used blocks between -/
theorem take_gap (L : List UInt8) (blocks n : Int) : ∀ (i : Nat) (x : Int), (takeL L blocks n)[i]? = some x → 0 ≤ x ∧ x < 1024 ∧ x < blocks ∧ usedB L x = false ∧ lastM (takeL L blocks n) i < x ∧ -1 ≤ lastM (takeL L blocks n) i ∧ ∀ j : Int, lastM (takeL L blocks n) i < j → j < x → usedB L j = true := by
  intro i x hx
  obtain ⟨r, hr⟩ : ∃ r, takeL L blocks n = (frees L blocks (top blocks)).take r := by
    unfold takeL
    split
    · exact ⟨_, rfl⟩
    · exact ⟨0, by simp⟩
  rw [hr] at hx ⊢
  have hi : i < ((frees L blocks (top blocks)).take r).length := (List.getElem?_eq_some_iff.1 hx).1
  rw [lastM_take _ _ _ (by omega)]
  have hx2 : (frees L blocks (top blocks))[i]? = some x := by
    rw [List.getElem?_take] at hx
    split at hx
    · exact hx
    · cases hx
  obtain ⟨a, b, c, d, e⟩ := frees_gap L blocks _ i x hx2
  have ht := top_le blocks
  obtain ⟨f1, f2⟩ := fr_free c
  rw [Int.toNat_of_nonneg a] at f1 f2
  have hl := ((frees_last L blocks (top blocks)).1 i (by rw [List.length_take] at hi; omega)).1
  refine ⟨a, by omega, f1, f2, d, hl, fun j h1 h2 => ?_⟩
  obtain ⟨j, rfl⟩ := Int.eq_ofNat_of_zero_le (show 0 ≤ j by omega)
  exact fr_used (e j h1 h2) (by omega)
theorem frees_mem (L : List UInt8) (blocks : Int) (k : Nat) (x : Int) (h : x ∈ frees L blocks k) : 0 ≤ x ∧ x < blocks ∧ usedB L x = false := by
  unfold frees at h
  obtain ⟨j, hj, rfl⟩ := List.mem_map.1 h
  have := fr_free (List.mem_filter.1 hj).2
  exact ⟨by omega, this.1, this.2⟩
/-- each place of a stretch is free -/
theorem spans_free (L : List UInt8) (blocks : Int) : ∀ p ∈ spans L blocks, ∀ j : Int, p.1 ≤ j → j < p.1 + p.2 → usedB L j = false ∧ j < blocks := by
  intro p hp j h1 h2
  have hm : j ∈ exs (spans L blocks) := by
    refine List.mem_flatMap.2 ⟨p, hp, ?_⟩
    unfold ex
    refine List.mem_map.2 ⟨(j - p.1).toNat, List.mem_range.2 (by omega), by omega⟩
  rw [spans_frees] at hm
  have := frees_mem L blocks _ j hm
  exact ⟨this.2.2, this.2.1⟩
theorem ord_next : ∀ (l : List (Int × Int)) (last : Int) (i : Nat) (p : Int × Int), ordM last l = true → l[i]? = some p → endM last (l.take i) < p.1
  | [], _, i, p, _, h => by simp at h
  | q :: r, last, 0, p, ho, h => by
    simp at h
    subst h
    unfold ordM at ho
    split at ho
    · cases ho
    · rename_i hn
      show last < q.1
      omega
  | q :: r, last, i + 1, p, ho, h => by
    unfold ordM at ho
    split at ho
    · cases ho
    · exact ord_next r _ i p ho (by simpa using h)
theorem end_take {l : List (Int × Int)} {i : Nat} {p : Int × Int} (last : Int) (h : l[i]? = some p) : endM last (l.take (i + 1)) = p.1 + p.2 := by
  rw [List.take_add_one, h]
  exact end_snoc _ _ _
theorem end_low : ∀ (l : List (Int × Int)) (last : Int), (∀ p ∈ l, St p.1 p.2) → -1 ≤ last → last ≤ 33554432 → -1 ≤ endM last l ∧ endM last l ≤ 33554432
  | [], last, _, h1, h2 => ⟨h1, h2⟩
  | p :: r, last, h, _, _ => by
    have hp := h p (by simp)
    unfold St at hp
    exact end_low r _ (fun q hq => h q (by simp [hq])) (by omega) (by omega)
theorem spans_sumP (L : List UInt8) (blocks : Int) : sumP (spans L blocks) = ((frees L blocks (top blocks)).length : Int) := by
  have := spans_sum L blocks
  unfold sumM at this
  rwa [spans_ord, if_pos rfl] at this
end Go.Proofs.Ytipdaecihfkonaa.Bt
