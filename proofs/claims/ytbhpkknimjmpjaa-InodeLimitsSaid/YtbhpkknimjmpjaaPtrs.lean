/-
  The pointers within an inode's variable: how they are read.
-/
import Derived.Test.YtbhpkknimjmpjaaRow
namespace Go.Proofs.Ytbhpkknimjmpjaa.In
open Go.RowKit Wd
set_option linter.unusedVariables false

theorem ptrInfo : (Try.prog.info? 24).map (·.size) = some 32 := by kernel_rfl
theorem IRow.tail {w : World} {b : Nat} {xs : List Int} (h : IRow w b xs) : w.rangeAt b 5 ((xs.drop 5).map (Value.int .i64)) := by
  intro j v hj
  rw [List.getElem?_map, List.getElem?_drop] at hj
  cases hx : xs[5 + j]? with
  | none => rw [hx] at hj; cases hj
  | some x =>
    rw [hx] at hj
    injection hj with hj
    subst hj
    exact h.cell _ x hx
section
variable {ops : Array Oper} {Q : Exit → Act → World → Prop} {a : Act} {w : World} {rest : List Oper} {o : Oper}
theorem wpList_load_ptrs (hw : Region.wanted o (yielded ops a.tmps) = true) (x : Operand) (ho : o.op = .load 24 x) {b : Nat} {xs : List Int} (h : IRow w b xs) (hl : xs.length = 37) (hx : a.eval x = .pointer (some ⟨b, 5, none⟩))
    (hK : wpList Try.prog ops Q rest (a.put o.dst (.agg (ints (xs.drop 5)))) w) : wpList Try.prog ops Q (o :: rest) a w := by
  refine wpList_val hw (.agg (ints (xs.drop 5))) w ?_ hK
  have := run_loadAt_mid (P := Try.prog) w b 5 24 ((xs.drop 5).map (Value.int .i64)) _ (IRow.tail h) Try.underlying24 rfl (by rw [List.length_map, List.length_drop, hl]; exact ptrInfo)
  have hi : ((xs.drop 5).map (Value.int .i64)).toArray = ints (xs.drop 5) := rfl
  rw [hi] at this
  unfold execOp
  simp only [ho, hx, this, Sem.run_bind, Sem.run_pure, Result.andThen_ok]
theorem wpList_index_ptrs (hw : Region.wanted o (yielded ops a.tmps) = true) (x y : Operand) (ho : o.op = .index 24 x y) {P : List Int} (k : Nat) (hk : k < 32) (p : Int) (hp : P[k]? = some p) (hx : a.eval x = .agg (ints P)) (hy : a.eval y = .int .i64 (k : Int))
    (hK : wpList Try.prog ops Q rest (a.put o.dst (.int .i64 p)) w) : wpList Try.prog ops Q (o :: rest) a w := by
  refine wpList_val hw (.int .i64 p) w ?_ hK
  have hs := In.run_sizeOf Try.prog w 3 1 (by kernel_rfl)
  have hai : (isAgg 3).run Try.prog w = .ok false w := by simp [isAgg, run_underlying Try.underlying3]
  have hpt : (part 3 (ints P) k).run Try.prog w = .ok (.int .i64 p) w := by
    obtain ⟨h1, h2⟩ := List.getElem?_eq_some_iff.1 hp
    simp [part, hai, In.ints_at P k h1, h2]
  clear hK
  unfold execOp
  generalize a.eval = ρ at *
  simp [ho, hx, hy, Instr.index, asIntOf, run_underlying Try.underlying24, hs, hpt]
  intro h
  omega
end
def cnt (xs : List Int) : Nat := ((xs.drop 5).filter fun p => !(p == 0)).length
theorem cnt_next {Q : List Int} {k : Nat} {q : Int} (hq : Q[k]? = some q) : ((Q.take (k + 1)).filter fun p => !(p == 0)).length = ((Q.take k).filter fun p => !(p == 0)).length + (if q = 0 then 0 else 1) := by
  rw [List.take_add_one, hq, List.filter_append, List.length_append]
  congr 1
  by_cases h0 : q = 0
  · simp [h0]
  · simp [h0]
end Go.Proofs.Ytbhpkknimjmpjaa.In
