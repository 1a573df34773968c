/-
  A row of numbers, its loads and comparisons within a region that draws its order.
-/
import Derived.Test.YtgfhepfikphliaaRow
import Derived.Test.YtgfhepfikphliaaRely
import Derived.Test.YtgfhepfikphliaaInode1
namespace Go.Proofs.Ytgfhepfikphliaa.In
open Go.RowKit Wd
set_option linter.unusedVariables false
section
variable {Q : Exit → Act → World → Prop} {o : Oper} {a : Act} {w : World} {K : Act → World → Prop}
theorem IRow.kept {w w' : World} {b : Nat} {xs : List Int} (h : IRow w b xs) (hk : Kept w w') (hlt : b < w.heap.size) : IRow w' b xs := h.below hk hlt
theorem wp_load_ino {x : Operand} (ho : o.op = .load 24 x) {b : Nat} {xs : List Int} (h : IRow w b xs) (hl : xs.length = 37) (hx : a.eval x = .pointer (some ⟨b, 0, none⟩))
    (hK : K (a.put o.dst (.agg (ints xs))) w) : Oper.wp Try.prog o a w K Q := by
  refine wp_val (.agg (ints xs)) ?_ hK
  have := run_loadAt_mid (P := Try.prog) w b 0 24 (xs.map (Value.int .i64)) _ h.range Try.underlying24 rfl (by rw [List.length_map, hl]; exact inoInfo)
  have hi : (xs.map (Value.int .i64)).toArray = ints xs := rfl
  rw [hi] at this
  unfold execOp
  simp [ho, hx, this]
theorem wp_eql_ino {t' : TypeId} {x y : Operand} (ho : o.op = .binOp .eql 24 x y t') {xs ys : List Int} (hx : a.eval x = .agg (ints xs)) (hy : a.eval y = .agg (ints ys)) (hlx : xs.length = 37) (hly : ys.length = 37) (b : Bool) (hb : (xs == ys) = b)
    (hK : K (a.put o.dst (.bool b)) w) : Oper.wp Try.prog o a w K Q := by
  subst hb
  refine wp_val (.bool (xs == ys)) ?_ hK
  have hg : (eqGuard .eql 24 x y (.agg (ints xs)) (.agg (ints ys))).run Try.prog w = .ok () w := run_eqGuard_agg (P := Try.prog) w .eql _ x y _ _ (by kernel_rfl)
  have hb : (binOp .eql 24 (.agg (ints xs)) (.agg (ints ys))).run Try.prog w = .ok (.bool (xs == ys)) w := by
    rw [run_eql_struct, run_eql_ino w xs ys hlx hly 9997]; rfl
  unfold execOp
  simp [ho, hx, hy, hg, hb]
theorem run_neq_ino (w : World) (xs ys : List Int) (hlx : xs.length = 37) (hly : ys.length = 37) : (binOp .neq 24 (.agg (ints xs)) (.agg (ints ys))).run Try.prog w = .ok (.bool (!(xs == ys))) w := by
  rw [run_neq_struct, run_eql_ino w xs ys hlx hly 9997]; rfl
theorem wp_neq_ino {t' : TypeId} {x y : Operand} (ho : o.op = .binOp .neq 24 x y t') {xs ys : List Int} (hx : a.eval x = .agg (ints xs)) (hy : a.eval y = .agg (ints ys)) (hlx : xs.length = 37) (hly : ys.length = 37) (b : Bool) (hb : (!(xs == ys)) = b)
    (hK : K (a.put o.dst (.bool b)) w) : Oper.wp Try.prog o a w K Q := by
  subst hb
  refine wp_val (.bool (!(xs == ys))) ?_ hK
  have hg : (eqGuard .neq 24 x y (.agg (ints xs)) (.agg (ints ys))).run Try.prog w = .ok () w := run_eqGuard_agg (P := Try.prog) w .neq _ x y _ _ (by kernel_rfl)
  unfold execOp
  simp [ho, hx, hy, hg, run_neq_ino w xs ys hlx hly]
theorem wpList_neq_ino {ops : Array Oper} {Q : Exit → Act → World → Prop} {rest : List Oper} {t' : TypeId} {x y : Operand} (hw : Region.wanted o (yielded ops a.tmps) = true)
    (ho : o.op = .binOp .neq 24 x y t') (xs ys : List Int) (hx : a.eval x = .agg (ints xs)) (hy : a.eval y = .agg (ints ys)) (hlx : xs.length = 37) (hly : ys.length = 37)
    (hK : wpList Try.prog ops Q rest (a.put o.dst (.bool (!(xs == ys)))) w) : wpList Try.prog ops Q (o :: rest) a w := by
  refine wpList_val hw (.bool (!(xs == ys))) w ?_ hK
  have hg : (eqGuard .neq 24 x y (.agg (ints xs)) (.agg (ints ys))).run Try.prog w = .ok () w := run_eqGuard_agg (P := Try.prog) w .neq _ x y _ _ (by kernel_rfl)
  unfold execOp
  simp [ho, hx, hy, hg, run_neq_ino w xs ys hlx hly]
end
end Go.Proofs.Ytgfhepfikphliaa.In
