/-
  make([]byte, n): a row of the call's own, all noughts.
-/
import Derived.Test.YtbhpkknimjmpjaaWireI
import Derived.Laws.OwnMore
namespace Go.Proofs.Ytbhpkknimjmpjaa.Wi
open Go.RowKit Wd
set_option linter.unusedVariables false

theorem made_bytes (n : Nat) : (madeCells #[Value.int .u8 0] n).toList = (List.replicate n (0 : UInt8)).map bv := by
  apply List.ext_getElem
  · simp [madeCells]
  · intro j h1 h2
    simp [madeCells, Nat.mod_one, bv]

theorem wpList_make_bytes {ops : Array Oper} {Q : Exit → Act → World → Prop} {a : Act} {w : World} {rest : List Oper} {o : Oper} (hg : o.guard = none) (x y : Operand) (ho : o.op = .makeSlice 22 x y) (n : Nat) (hn : n ≤ 16777216)
    (hx : a.eval x = .int .i64 (n : Int)) (hy : a.eval y = .int .i64 (n : Int))
    (hK : ∀ w', w'.ownsRow w.heap.size 5 1 (.slice (some ⟨w.heap.size, 0, none⟩) n n) n ((List.replicate n (0 : UInt8)).map bv) → Below w.heap.size w w' → w.heap.size < w'.heap.size →
      wpList Try.prog ops Q rest (a.put o.dst (.slice (some ⟨w.heap.size, 0, none⟩) n n)) w') : wpList Try.prog ops Q (o :: rest) a w := by
  obtain ⟨i0, hi, hz0, hz1, hz2⟩ := info_parts infoB
  obtain ⟨w', hr, ho2, hgb⟩ := run_makeSlice_full (P := Try.prog) w w.heap.size 22 5 i0 (.int .u8 0) 1 Try.underlying22 hi hz0 hz1 .i64 .i64 n (by omega) (by rw [hz2]; omega) (by simp only [maxLen]; omega) (Nat.le_refl _)
  have hz : (madeCells (Value.int .u8 0).cells (n * 1)).toList = (List.replicate n (0 : UInt8)).map bv := by
    rw [Nat.mul_one]
    exact made_bytes n
  rw [hz] at ho2
  have hlt : w.heap.size < w'.heap.size := by
    rcases ho2.2 with ⟨h, _⟩ | ⟨g, cap, cur, hv, _, hgg, _⟩
    · cases h
    · injection hv with hA
      injection hA with hA
      injection hA with hA
      subst hA
      exact (Array.getElem?_eq_some_iff.1 hgg).1
  refine wpList_val (by simp [Region.wanted, hg]) _ w' ?_ (hK w' ho2 ((Below.refl _ _).grown hgb (Nat.le_refl _) (fun k hk => by cases hk)) hlt)
  unfold execOp
  simp [ho, hx, hy, hr]
end Go.Proofs.Ytbhpkknimjmpjaa.Wi
