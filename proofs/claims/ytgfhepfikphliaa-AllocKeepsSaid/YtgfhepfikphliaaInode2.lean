/-
  The contract of inode.Check, its loop over the pointers.
-/
import Derived.Test.YtgfhepfikphliaaInode1
import Derived.Deep.QuietTactic
import Derived.BigQuiet
import Derived.Deep.WholeRow
namespace Go.Proofs.Ytgfhepfikphliaa.In
open Go.RowKit Wd
set_option linter.unusedVariables false

theorem zeros44_at (n : Nat) (h : n < 1024) : zeros44[n]? = some (.bool false) := by
  unfold zeros44
  rw [List.getElem?_toArray, List.getElem?_replicate, if_pos h]
theorem zeros44_size : zeros44.size = 1024 := by
  unfold zeros44
  rw [List.size_toArray, List.length_replicate]
theorem built44 : Try.prog.built 49 [] = some zeros44 := by
  have h := zero44
  obtain ⟨ie, hie⟩ : ∃ ie, Try.prog.info? 4 = some ie := Option.isSome_iff_exists.1 (by kernel_rfl)
  cases hi : Try.prog.info? 49 with
  | none => rw [hi] at h; cases h
  | some i =>
    rw [hi] at h
    have hz : i.zero = some (.agg zeros44) := by simpa using h
    simp [Program.built, hi, Try.underlying49, hz, hie, Value.cells, Instr.fill]
theorem run_build44 (w : World) : (Instr.build 49 #[]).run Try.prog w = .ok (.agg zeros44) w := run_build w _ #[] zeros44 built44
theorem exec_build44 (ρ : Operand → Value) (w : World) (o : Oper) (ho : o.op = .build 49 #[]) : (execOp ρ o).run Try.prog w = .ok (.value (.agg zeros44)) w := by
  unfold execOp
  simp [ho, run_build44]
theorem run_alloc44 (w : World) : (Instr.alloc 49 true (.tuple #[])).run Try.prog w = .ok (.pointer (some ⟨w.heap.size, 0, none⟩)) (w.alloc (.cells zeros44 49)) := by
  have h := zero44
  cases hi : Try.prog.info? 49 with
  | none => rw [hi] at h; cases h
  | some i =>
    rw [hi] at h
    have hz : i.zero = some (.agg zeros44) := by simpa using h
    simp [Instr.alloc, zeroValue, typeInfo, hi, hz, newVar, newRow, Value.cells]

theorem exec_alloc44 (ρ : Operand → Value) (w : World) (o : Oper) (ho : o.op = .alloc 49) : (execOp ρ o).run Try.prog w = .ok (.value (.pointer (some ⟨w.heap.size, 0, none⟩))) (w.alloc (.cells zeros44 49)) := by
  unfold execOp
  simp [ho, run_alloc44]
theorem ones44 : zeros44.all (·.oneCell') = true := by
  unfold zeros44
  rw [Array.all_eq_true_iff_forall_mem]
  intro v hv
  have h := List.eq_of_mem_replicate (Array.mem_def.1 hv)
  rw [h]
  rfl
theorem size44 : (Try.prog.info? 49).map (·.size) = some zeros44.size := by rw [zeros44_size]; kernel_rfl
end Go.Proofs.Ytgfhepfikphliaa.In
