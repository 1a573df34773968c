/-
  gauss: the contracts of its functions, for whole numbers.
-/
import Derived.Test.YtpacmghekfkidaaGauss1
import Derived.Test.YtpacmghekfkidaaRows
import Derived.WalkKit
import Derived.WalkLawsBesides
import Derived.Lib.Hide
import Derived.Laws.Externs
import Derived.Laws.ComplexArith
import Derived.Laws.Cover2
import Derived.Laws.Cover3
import Derived.Deep.QuietTactic
import Derived.BigQuiet
namespace Go.Proofs.Ytpacmghekfkidaa.Ga
open Fl Go.RowKit
set_option linter.unusedVariables false

theorem bits_any (b : Nat) (w : World) : (callFunc 33 #[.float .f64 b]).run Try.prog w = .ok (.value (.int .u64 b)) w := by
  rw [run_callFunc_extern Try.func33 (by kernel_rfl) (by kernel_rfl) (by kernel_rfl) (e := Extern.MathFloatBits.float64bits) (by kernel_rfl)]
  rfl
theorem trunc_any {a : Int} (ha : Sm a) (w : World) : (callFunc 31 #[.float .f64 (fz a)]).run Try.prog w = .ok (.value (.float .f64 (fz a))) w := by
  rw [run_callFunc_extern Try.func31 (by kernel_rfl) (by kernel_rfl) (by kernel_rfl) (e := Extern.MathFloor.toIntegral "math.archTrunc" .zero) (by kernel_rfl), run_trunc ha]
  rfl
theorem Trunc_any {a : Int} (ha : Sm a) (w : World) : Calls Try.prog 29 #[.float .f64 (fz a)] w fun e w' => e = .returned (.float .f64 (fz a)) ∧ w = w' := by
  have h := fun w => trunc_any ha w
  generalize fz a = x at *
  go_enter Try.func29, Try.ntmps29
  go_wp2
  go_ret
  exact ⟨rfl, rfl⟩
theorem Signbit_no {a : Int} (ha : Sm a) (h0 : 0 ≤ a) (w : World) : Calls Try.prog 30 #[.float .f64 (fz a)] w fun e w' => e = .returned (.bool false) ∧ w = w' := by
  have h := fun w => bits_any (fz a) w
  have hlt := fz_lt ha h0
  generalize fz a = x at *
  have hx : (x : Int) < 9223372036854775808 := by omega
  have hx0 : (0 : Int) ≤ (x : Int) := by omega
  go_enter Try.func30, Try.ntmps30
  go_wp2
  go_ret
  exact ⟨rfl, rfl⟩
end Go.Proofs.Ytpacmghekfkidaa.Ga
