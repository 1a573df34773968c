/-
  A row of numbers, its loads and comparisons within a region that draws its order.
-/
import Derived.Test.YtgfhepfikphliaaRow
import Derived.Test.YtgfhepfikphliaaRely
import Derived.Test.YtgfhepfikphliaaInode1
namespace Go.Proofs.Ytgfhepfikphliaa.In
open Go.RowKit Wd
set_option linter.unusedVariables false
section
variable {Q : Exit → Act → World → Prop} {o : Oper} {a : Act} {w : World} {K : Act → World → Prop}
theorem IRow.kept {w w' : World} {b : Nat} {xs : List Int} (h : IRow w b xs) (hk : Kept w w') (hlt : b < w.heap.size) : IRow w' b xs := h.below hk hlt
theorem wp_load_ino {x : Operand} (ho : o.op = .load 24 x) {b : Nat} {xs : List Int} (h : IRow w b xs) (hl : xs.length = 37) (hx : a.eval x = .pointer (some ⟨b, 0, none⟩))
    (hK : K (a.put o.dst (.agg (ints xs))) w) : Oper.wp Try.prog o a w K Q := by
  refine wp_val (.agg (ints xs)) ?_ hK
  have := run_loadAt_mid (P := Try.prog) w b 0 24 (xs.map (Value.int .i64)) _ h.range Try.underlying24 rfl (by rw [List.length_map, hl]; exact inoInfo)
  have hi : (xs.map (Value.int .i64)).toArray = ints xs := rfl
  rw [hi] at this
  unfold execOp
  simp [ho, hx, this]
theorem wp_eql_ino {t' : TypeId} {x y : Operand} (ho : o.op = .binOp .eql 24 x y t') {xs ys : List Int} (hx : a.eval x = .agg (ints xs)) (hy : a.eval y = .agg (ints ys)) (hlx : xs.length = 37) (hly : ys.length = 37) (b : Bool) (hb : (xs == ys) = b)
    (hK : K (a.put o.dst (.bool b)) w) : Oper.wp Try.prog o a w K Q := by
  subst hb
  refine wp_val (.bool (xs == ys)) ?_ hK
  have hg : (eqGuard .eql 24 x y (.agg (ints xs)) (.agg (ints ys))).run Try.prog w = .ok () w := run_eqGuard_agg (P := Try.prog) w .eql _ x y _ _ (by kernel_rfl)
  have hb : (binOp .eql 24 (.agg (ints xs)) (.agg (ints ys))).run Try.prog w = .ok (.bool (xs == ys)) w := by
    rw [run_eql_struct, run_eql_ino w xs ys hlx hly 9997]; rfl
  unfold execOp
  simp [ho, hx, hy, hg, hb]
theorem run_neq_ino (w : World) (xs ys : List Int) (hlx : xs.length = 37) (hly : ys.length = 37) : (binOp .neq 24 (.agg (ints xs)) (.agg (ints ys))).run Try.prog w = .ok (.bool (!(xs == ys))) w := by
  rw [run_neq_struct, run_eql_ino w xs ys hlx hly 9997]; rfl
theorem wp_neq_ino {t' : TypeId} {x y : Operand} (ho : o.op = .binOp .neq 24 x y t') {xs ys : List Int} (hx : a.eval x = .agg (ints xs)) (hy : a.eval y = .agg (ints ys)) (hlx : xs.length = 37) (hly : ys.length = 37) (b : Bool) (hb : (!(xs == ys)) = b)
    (hK : K (a.put o.dst (.bool b)) w) : Oper.wp Try.prog o a w K Q := by
  subst hb
  refine wp_val (.bool (!(xs == ys))) ?_ hK
  have hg : (eqGuard .neq 24 x y (.agg (ints xs)) (.agg (ints ys))).run Try.prog w = .ok () w := run_eqGuard_agg (P := Try.prog) w .neq _ x y _ _ (by kernel_rfl)
  unfold execOp
  simp [ho, hx, hy, hg, run_neq_ino w xs ys hlx hly]
theorem wpList_neq_ino {ops : Array Oper} {Q : Exit → Act → World → Prop} {rest : List Oper} {t' : TypeId} {x y : Operand} (hw : Region.wanted o (yielded ops a.tmps) = true)
    (ho : o.op = .binOp .neq 24 x y t') (xs ys : List Int) (hx : a.eval x = .agg (ints xs)) (hy : a.eval y = .agg (ints ys)) (hlx : xs.length = 37) (hly : ys.length = 37)
    (hK : wpList Try.prog ops Q rest (a.put o.dst (.bool (!(xs == ys)))) w) : wpList Try.prog ops Q (o :: rest) a w := by
  refine wpList_val hw (.bool (!(xs == ys))) w ?_ hK
  have hg : (eqGuard .neq 24 x y (.agg (ints xs)) (.agg (ints ys))).run Try.prog w = .ok () w := run_eqGuard_agg (P := Try.prog) w .neq _ x y _ _ (by kernel_rfl)
  unfold execOp
  simp [ho, hx, hy, hg, run_neq_ino w xs ys hlx hly]
theorem wp_store_num (t : TypeId) {x y : Operand} (ho : o.op = .store t x y) (hs : (Try.prog.info? t).map (·.size) = some 1) {b : Nat} {xs : List Int} (h : IRow w b xs) (hl : xs.length = 37) (i : Nat) (v : Int) (hi : i < 37)
    (hx : a.eval x = .pointer (some ⟨b, i, none⟩)) (hy : a.eval y = .int .i64 v) (hK : ∀ w', IRow w' b (xs.set i v) → Only b w w' → (xs.set i v).length = 37 → K (a.put o.dst undef) w') : Oper.wp Try.prog o a w K Q := by
  have hr : (execOp a.eval o).run Try.prog w = .ok .skip (w.setCell ⟨b, i, none⟩ (.int .i64 v)) := by
    have hi' : i < xs.length := by omega
    have h1 := h.cell i _ (List.getElem?_eq_getElem hi')
    have h2 := h.fz i
    have h3 := In.run_sizeOf Try.prog w t 1 hs
    clear hK
    unfold execOp
    generalize a.eval = ρ at *
    simp [ho, hx, hy, go_sem, h1, h2, h3]
  unfold Oper.wp
  rw [hr]
  exact hK _ (h.set i v (by omega)) (Only.setCell b i w _) ((List.length_set ..).trans hl)
end
end Go.Proofs.Ytgfhepfikphliaa.In
