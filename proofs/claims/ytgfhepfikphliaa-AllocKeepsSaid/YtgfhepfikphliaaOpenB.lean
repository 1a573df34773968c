/-
  What comes in: a slice of truths.
-/
import Derived.Test.YtgfhepfikphliaaOpen
import Derived.Deep.Grids
namespace Go.Proofs.Ytgfhepfikphliaa.Wd
open Go.RowKit Go.ChangeShapes Go.WideShapes Go.Deep
set_option linter.unusedVariables false
section
variable {H : Type} {enc : TypeId × Value → H} {P : Program} {W : World}
theorem open_bool_row {t e : TypeId} {a : Option Addr} {n c : Nat} {d : DataW H} {p : List MemPlace} (ht : P.underlying t = some (.slice e)) (he : P.underlying e = some .bool) (hc : P.cellsOf e = 1)
    (h : DataW.Trod enc P W 0 (fun _ => true) true t (.slice a n c) d p) :
    ∃ l : List Bool, n = l.length ∧ Sl W W.heap.size 1 a l.length (l.map Value.bool) ∧ l.length ≤ c ∧ Room d c := by
  obtain ⟨fuel, hf⟩ := h
  rcases open_bools ht he hc hf with ⟨hcs, _⟩ | ⟨x, l, c', B, hcs, _, hl, hm, hd, hcell⟩
  · simp [Value.cells] at hcs
    obtain ⟨rfl, rfl, rfl⟩ := hcs
    exact ⟨[], rfl, Sl.nil _, by simp, .inl rfl⟩
  · simp [Value.cells] at hcs
    obtain ⟨rfl, rfl, rfl⟩ := hcs
    have hL : ((List.range n).map B).length = n := by simp
    refine ⟨(List.range n).map B, hL.symm, ⟨by rw [List.length_map, Nat.mul_one], fun hn => ⟨x, rfl, ?_, fun j u hu => ?_⟩⟩, by rw [hL]; exact hl, .inr ⟨_, _, (Prod.mk.injEq _ _ _ _ ▸ hd).1, ?_⟩⟩
    · rw [hL] at hn
      have h0 := hcell 0 (by omega)
      have := World.block_lt_of_cell? W _ h0
      rwa [add_block] at this
    · rw [List.getElem?_map, List.getElem?_map] at hu
      by_cases hj : j < n
      · rw [List.getElem?_range hj] at hu
        rw [hcell j (by omega), ← hu]
        rfl
      · rw [List.getElem?_eq_none (by simpa using hj)] at hu
        cases hu
    · simp
      omega
end
end Go.Proofs.Ytgfhepfikphliaa.Wd
