/-
  Plain law for 'AllocKeeps', fourth part: those that are gone, one by one.
-/
import Derived.Test.YtgfhepfikphliaaKeep3
namespace Go.Proofs.Ytgfhepfikphliaa.Al
open Go.RowKit Wd In
set_option linter.unusedVariables false

theorem filter_at {α : Type} (f : α → Bool) : ∀ (l : List α) (k : Nat) (x : α), l[k]? = some x → f x = true → (l.filter f)[((l.take k).filter f).length]? = some x
  | [], k, x, h, _ => by simp at h
  | y :: l, 0, x, h, hf => by
    simp at h
    subst h
    simp [hf]
  | y :: l, k + 1, x, h, hf => by
    have ih := filter_at f l k x (by simpa using h) hf
    rw [List.take_succ_cons]
    by_cases hy : f y = true
    · rw [List.filter_cons_of_pos hy, List.filter_cons_of_pos hy, List.length_cons, List.getElem?_cons_succ]
      exact ih
    · rw [List.filter_cons_of_neg hy, List.filter_cons_of_neg hy]
      exact ih
theorem filter_step {α : Type} (f : α → Bool) {l : List α} {k : Nat} {x : α} (h : l[k]? = some x) : ((l.take (k + 1)).filter f).length = ((l.take k).filter f).length + if f x = true then 1 else 0 := by
  rw [List.take_add_one, h, List.filter_append, List.length_append]
  congr 1
  by_cases hf : f x = true
  · simp [hf]
  · simp [hf]
theorem gone_is {X : List Int} (hl : X.length = 37) (p : Int) : (!(p == 0) && !((X.drop 5).contains p)) = (!(p == 0) && !(hasP X p)) := by
  congr 2
  rw [Bool.eq_iff_iff, List.contains_iff_mem, has_mem hl]
end Go.Proofs.Ytgfhepfikphliaa.Al
