/-
  dir: a variable of 676 numbers.
-/
import Derived.Test.YtifbbbphoponcaaDir17
import Derived.Test.YtifbbbphoponcaaWire2
namespace Go.Proofs.Ytifbbbphoponcaa.Dr
open Go.RowKit Wd Wi
set_option linter.unusedVariables false

structure NRow (w : World) (b : Nat) (xs : List Nat) : Prop where
  cell : ∀ i v, xs[i]? = some v → w.cell? ⟨b, i, none⟩ = some (.int .i64 ((v : Nat) : Int))
  fz : ∀ i : Nat, w.frozen? ⟨b, i, none⟩ = false
def nums (xs : List Nat) : Array Value := (xs.map fun v => Value.int .i64 ((v : Nat) : Int)).toArray
theorem NRow.new (w : World) (xs : List Nat) (t : TypeId) : NRow (w.alloc (.cells (nums xs) t)) w.heap.size xs :=
  ⟨fun i v h => by
    rw [cell_of_row _ _ i _ _ (0, 0) (heap_alloc_new w _)]
    simp [nums, h], fun i => World.frozen?_alloc_new w _ _ i⟩
theorem NRow.of_block {w w' : World} {b : Nat} {xs : List Nat} (h : NRow w b xs) (hb : w'.heap[b]? = w.heap[b]?) : NRow w' b xs :=
  ⟨fun i v hv => (World.cell?_of_block (w := w) hb).trans (h.cell i v hv), fun i => (World.frozen?_of_block (w := w) hb).trans (h.fz i)⟩
theorem NRow.below {w w' : World} {B b : Nat} {xs : List Nat} (h : NRow w b xs) (hb : Below B w w') (hlt : b < B) : NRow w' b xs := h.of_block (hb.block b hlt)
theorem NRow.set {w : World} {b : Nat} {xs : List Nat} (h : NRow w b xs) (i v : Nat) (hi : i < xs.length) : NRow (w.setCell ⟨b, i, none⟩ (.int .i64 ((v : Nat) : Int))) b (xs.set i v) := by
  refine ⟨fun j u hj => ?_, fun j => (World.frozen?_setCell _ _ _ _).trans (h.fz j)⟩
  by_cases hji : j = i
  · subst hji
    rw [List.getElem?_set_self hi] at hj
    injection hj with hj
    subst hj
    exact World.cell?_setCell_same' _ _ _ (by rw [h.cell j _ (List.getElem?_eq_getElem hi)]; rfl)
  · rw [List.getElem?_set_ne (fun e => hji e.symm)] at hj
    rw [World.cell?_setCell_other _ _ _ _ (by simp <;> omega)]
    exact h.cell j u hj
theorem zero676 : (Try.prog.info? 42).map (fun i => i.zero) = some (some (.agg (nums (List.replicate 676 0)))) := by kernel_rfl
theorem wpList_alloc_arr {ops : Array Oper} {Q : Exit → Act → World → Prop} {a : Act} {w : World} {rest : List Oper} {o : Oper} (hg : o.guard = none) (ho : o.op = .alloc 42)
    (hK : ∀ w', NRow w' w.heap.size (arrL []) → Below w.heap.size w w' → w.heap.size < w'.heap.size → wpList Try.prog ops Q rest (a.put o.dst (.pointer (some ⟨w.heap.size, 0, none⟩))) w') : wpList Try.prog ops Q (o :: rest) a w := by
  have h := zero676
  have hn : ∀ (w : World) (t : TypeId), NRow (w.alloc (.cells (nums (List.replicate 676 0)) t)) w.heap.size (List.replicate 676 0) := fun w t => NRow.new w _ t
  rw [arrL_nil] at hK
  generalize nums (List.replicate 676 0) = Z at h hn
  refine wpList_val (by simp [Region.wanted, hg]) (.pointer (some ⟨w.heap.size, 0, none⟩)) (w.alloc (.cells Z 42)) ?_ (hK _ (hn w _) ((Below.refl _ _).alloc (Nat.le_refl _) _) (by simp))
  clear hK hn
  unfold execOp
  generalize a.eval = ρ at *
  cases hi : Try.prog.info? 42 with
  | none => rw [hi] at h; cases h
  | some i =>
    rw [hi] at h
    have hz : i.zero = some (.agg Z) := by simpa using h
    simp [ho, Instr.alloc, zeroValue, typeInfo, hi, hz, newVar, newRow, Value.cells]
/-- a slice that does not lie in the block that is written -/
theorem Sl.setOther {w : World} {B n b i : Nat} {A : Option Addr} {xs : List Value} (h : Sl w B 2 A n xs) (hA : ∀ ad, A = some ad → b < ad.block) (u : Value) : Sl (w.setCell ⟨b, i, none⟩ u) B 2 A n xs := by
  refine ⟨h.1, fun h0 => ?_⟩
  obtain ⟨ad, e, hb, hc⟩ := h.2 h0
  have hlt := hA ad e
  refine ⟨ad, e, hb, fun j u' hj => (World.cell?_setCell_other _ _ _ _ ?_).trans (hc j u' hj)⟩
  intro he
  have := congrArg Addr.block he
  rw [add_block] at this
  simp at this
  omega
end Go.Proofs.Ytifbbbphoponcaa.Dr
