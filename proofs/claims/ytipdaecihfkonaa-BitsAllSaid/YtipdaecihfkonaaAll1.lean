/-
  Pairs of numbers in memory: the document's stretches.
-/
import Derived.Test.YtipdaecihfkonaaAll0
import Derived.Test.YtipdaecihfkonaaBit5
import Derived.Deep.MidRow
namespace Go.Proofs.Ytipdaecihfkonaa.Bt
open Go.RowKit Wd By Sp Fl Ga
set_option linter.unusedVariables false

def pcs : Ps → List Value
  | [] => []
  | p :: l => .int .i64 p.1 :: .int .i64 p.2 :: pcs l
theorem pcs_len : ∀ l : Ps, (pcs l).length = l.length * 2
  | [] => rfl
  | p :: l => by simp only [pcs, List.length_cons, pcs_len l]; omega
theorem pcs_append : ∀ a b : Ps, pcs (a ++ b) = pcs a ++ pcs b
  | [], b => rfl
  | p :: a, b => by simp [pcs, pcs_append a b]
theorem pcs_at : ∀ (l : Ps) (i : Nat) (p : Int × Int), l[i]? = some p → (pcs l)[i * 2]? = some (.int .i64 p.1) ∧ (pcs l)[i * 2 + 1]? = some (.int .i64 p.2)
  | [], i, p, h => by simp at h
  | x :: l, 0, p, h => by
    simp at h
    subst h
    exact ⟨rfl, rfl⟩
  | x :: l, i + 1, p, h => by
    have := pcs_at l i p (by simpa using h)
    rw [show (i + 1) * 2 = i * 2 + 1 + 1 by omega]
    simpa [pcs] using this
theorem pcs_one : ∀ l : Ps, ∀ u ∈ pcs l, u.oneCell' = true
  | [], u, h => by simp [pcs] at h
  | p :: l, u, h => by
    simp only [pcs, List.mem_cons] at h
    rcases h with rfl | rfl | h
    · rfl
    · rfl
    · exact pcs_one l u h
theorem infoS : (Try.prog.info? 58).map (fun i => (i.zero, i.size, i.bytes)) = some (some (.agg #[.int .i64 0, .int .i64 0]), 2, 16) := by kernel_rfl
theorem sizeS : (Try.prog.info? 58).map (·.size) = some 2 := by kernel_rfl
theorem pair_range {w : World} {B n b off : Nat} {l : Ps} (h : Sl w B 2 (some ⟨b, off, none⟩) n (pcs l)) {k : Nat} {x1 x2 : Int} (hk : l[k]? = some (x1, x2)) : w.rangeAt b (off + k * 2) [.int .i64 x1, .int .i64 x2] ∧ b < B := by
  have hl := (List.getElem?_eq_some_iff.1 hk).1
  have hn : n = l.length := by have := h.1; rw [pcs_len] at this; omega
  obtain ⟨ad, e, hb, hc⟩ := h.2 (by omega)
  injection e with e
  subst e
  obtain ⟨h0, h1⟩ := pcs_at l k _ hk
  refine ⟨fun j v hj => ?_, hb⟩
  match j, hj with
  | 0, hj =>
    injection hj with hj
    subst hj
    have := hc _ _ h0
    rwa [Addr.add_lit] at this
  | 1, hj =>
    injection hj with hj
    subst hj
    have := hc _ _ h1
    rw [Addr.add_lit] at this
    rwa [← Nat.add_assoc] at this
/-- a variable that holds a pair -/
structure PRow (w : World) (b : Nat) (p1 p2 : Int) : Prop where
  c0 : w.cell? ⟨b, 0, none⟩ = some (.int .i64 p1)
  c1 : w.cell? ⟨b, 1, none⟩ = some (.int .i64 p2)
  f : ∀ i : Nat, w.frozen? ⟨b, i, none⟩ = false
theorem PRow.of_block {w w' : World} {b : Nat} {p1 p2 : Int} (h : PRow w b p1 p2) (hb : w'.heap[b]? = w.heap[b]?) : PRow w' b p1 p2 :=
  ⟨(World.cell?_of_block (w := w) hb).trans h.c0, (World.cell?_of_block (w := w) hb).trans h.c1, fun i => (World.frozen?_of_block (w := w) hb).trans (h.f i)⟩
theorem PRow.below {w w' : World} {B b : Nat} {p1 p2 : Int} (h : PRow w b p1 p2) (hb : Below B w w') (hlt : b < B) : PRow w' b p1 p2 := h.of_block (hb.block b hlt)
theorem PRow.only {w w' : World} {b b' : Nat} {p1 p2 : Int} (h : PRow w b p1 p2) (ho : Only b' w w') (hne : b ≠ b') : PRow w' b p1 p2 := h.of_block (ho.block b hne)
theorem PRow.cast {w : World} {b : Nat} {p1 p2 q1 q2 : Int} (h : PRow w b p1 p2) (h1 : p1 = q1) (h2 : p2 = q2) : PRow w b q1 q2 := by subst h1; subst h2; exact h
theorem PRow.new (w : World) (p1 p2 : Int) (t : TypeId) : PRow (w.alloc (.cells #[.int .i64 p1, .int .i64 p2] t)) w.heap.size p1 p2 :=
  ⟨by rw [cell_of_row _ _ 0 _ _ (0, 0) (heap_alloc_new w _)]; rfl, by rw [cell_of_row _ _ 1 _ _ (0, 0) (heap_alloc_new w _)]; rfl, fun i => World.frozen?_alloc_new w _ _ i⟩
theorem PRow.range {w : World} {b : Nat} {p1 p2 : Int} (h : PRow w b p1 p2) : w.rangeAt b 0 [.int .i64 p1, .int .i64 p2] := fun j v hj => by
  match j, hj with
  | 0, hj => injection hj with hj; subst hj; exact h.c0
  | 1, hj => injection hj with hj; subst hj; exact h.c1
theorem PRow.there {w : World} {b : Nat} {p1 p2 : Int} (h : PRow w b p1 p2) : w.there b 0 2 := fun j hj => by
  match j, hj with
  | 0, _ => exact ⟨by rw [h.c0]; rfl, h.f _⟩
  | 1, _ => exact ⟨by rw [h.c1]; rfl, h.f _⟩
theorem PRow.put {w : World} {b : Nat} {p1 p2 : Int} (h : PRow w b p1 p2) (q1 q2 : Int) : PRow (w.setCells b 0 [.int .i64 q1, .int .i64 q2]) b q1 q2 := by
  have hr := World.rangeAt_setCells_same w b 0 [.int .i64 q1, .int .i64 q2] h.there
  exact ⟨hr 0 _ rfl, hr 1 _ rfl, fun i => by rw [World.frozen?_setCells]; exact h.f i⟩
section
variable {ops : Array Oper} {Q : Exit → Act → World → Prop} {a : Act} {w : World} {rest : List Oper} {o : Oper}
theorem wpList_alloc_pair (hg : o.guard = none) (ho : o.op = .alloc 58) (hK : ∀ w', PRow w' w.heap.size 0 0 → Below w.heap.size w w' → w.heap.size < w'.heap.size → wpList Try.prog ops Q rest (a.put o.dst (.pointer (some ⟨w.heap.size, 0, none⟩))) w') : wpList Try.prog ops Q (o :: rest) a w := by
  refine wpList_val (by simp [Region.wanted, hg]) (.pointer (some ⟨w.heap.size, 0, none⟩)) (w.alloc (.cells #[.int .i64 0, .int .i64 0] 58)) ?_ (hK _ (PRow.new w 0 0 _) ((Below.refl _ _).alloc (Nat.le_refl _) _) (by simp))
  obtain ⟨i, hi, hz, _, _⟩ := info_parts infoS
  clear hK
  unfold execOp
  generalize a.eval = ρ at *
  simp [ho, Instr.alloc, zeroValue, typeInfo, hi, hz, newVar, newRow, Value.cells]
theorem wpList_store_pair (hg : o.guard = none) (x y : Operand) (ho : o.op = .store 58 x y) {b : Nat} {p1 p2 : Int} (q1 q2 : Int) (h : PRow w b p1 p2) (hx : a.eval x = .pointer (some ⟨b, 0, none⟩)) (hy : a.eval y = .agg #[.int .i64 q1, .int .i64 q2])
    (hK : ∀ w', PRow w' b q1 q2 → Only b w w' → wpList Try.prog ops Q rest (a.put o.dst undef) w') : wpList Try.prog ops Q (o :: rest) a w :=
  wpList_store_mid hg 58 x y ho b 0 #[.int .i64 q1, .int .i64 q2] hx hy h.there sizeS (by simp [Value.oneCell']) (hK _ (h.put q1 q2) (Only.setCells b _ 0 w))
theorem wpList_load_range (hg : o.guard = none) (x : Operand) (ho : o.op = .load 58 x) {b off : Nat} {p1 p2 : Int} (hx : a.eval x = .pointer (some ⟨b, off, none⟩)) (hr : w.rangeAt b off [.int .i64 p1, .int .i64 p2])
    (h : wpList Try.prog ops Q rest (a.put o.dst (.agg #[.int .i64 p1, .int .i64 p2])) w) : wpList Try.prog ops Q (o :: rest) a w :=
  wpList_load_mid hg 58 x ho b off hx _ _ hr Try.underlying58 rfl sizeS h
theorem wpList_load_pnum (hw : Region.wanted o (yielded ops a.tmps) = true) (t : TypeId) (x : Operand) (ho : o.op = .load t x) (ht : Try.prog.underlying t = some (.int .i64)) {b i : Nat} {v : Int} (hc : w.cell? ⟨b, i, none⟩ = some (.int .i64 v))
    (hx : a.eval x = .pointer (some ⟨b, i, none⟩)) (hK : wpList Try.prog ops Q rest (a.put o.dst (.int .i64 v)) w) : wpList Try.prog ops Q (o :: rest) a w := by
  refine wpList_val hw (.int .i64 v) w ?_ hK
  have hag : (isAgg t).run Try.prog w = .ok false w := by simp [isAgg, run_underlying ht]
  clear hK
  unfold execOp
  generalize a.eval = ρ at *
  simp [ho, hx, go_sem, hc, hag]
end
theorem Gives.pair {P : Program} {w : World} {t ty e et : TypeId} {i : TypeInfo} {z : Value} (ht : P.underlying t = some (.slice e)) (hi : P.info? e = some i) (hz : i.zero = some z) (hsz : i.size = 2) (x1 x2 : Int) :
    Gives P (w.alloc (.cells #[.int .i64 x1, .int .i64 x2] et)) t t ty e i z (.slice (some ⟨w.heap.size, 0, none⟩) 1 1) 1 (pcs [(x1, x2)]) := by
  refine Gives.src ht hi hz ?_
  rw [hsz]
  refine Src.ofSlice _ ht _ 1 1 (pcs [(x1, x2)]) rfl (fun j v hj => ?_) (pcs_one [(x1, x2)])
  rw [Addr.add_lit, cell_of_row _ _ _ _ et (0, 0) (heap_alloc_new w _), Nat.zero_add]
  simpa [pcs] using hj
end Go.Proofs.Ytipdaecihfkonaa.Bt
