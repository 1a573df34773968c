/-
  gauss: whole, Is and Make, for whole numbers.
-/
import Derived.Test.YtndfkpajojbfkaaGauss1
import Derived.Test.YtndfkpajojbfkaaRows
import Derived.WalkKit
import Derived.WalkLawsBesides
import Derived.Lib.Hide
import Derived.Laws.Externs
import Derived.Laws.ComplexArith
import Derived.Laws.Cover2
import Derived.Laws.Cover3
import Derived.Deep.QuietTactic
import Derived.BigQuiet
namespace Go.Proofs.Ytndfkpajojbfkaa.Ga
open Fl Go.RowKit
set_option linter.unusedVariables false

theorem bits_any (b : Nat) (w : World) : (callFunc 36 #[.float .f64 b]).run Try.prog w = .ok (.value (.int .u64 b)) w := by
  rw [run_callFunc_extern Try.func36 (by kernel_rfl) (by kernel_rfl) (by kernel_rfl) (e := Extern.MathFloatBits.float64bits) (by kernel_rfl)]
  rfl
theorem trunc_any {a : Int} (ha : Sm a) (w : World) : (callFunc 34 #[.float .f64 (fz a)]).run Try.prog w = .ok (.value (.float .f64 (fz a))) w := by
  rw [run_callFunc_extern Try.func34 (by kernel_rfl) (by kernel_rfl) (by kernel_rfl) (e := Extern.MathFloor.toIntegral "math.archTrunc" .zero) (by kernel_rfl), run_trunc ha]
  rfl
theorem Trunc_any {a : Int} (ha : Sm a) (w : World) : Calls Try.prog 32 #[.float .f64 (fz a)] w fun e w' => e = .returned (.float .f64 (fz a)) ∧ w = w' := by
  have h := fun w => trunc_any ha w
  generalize fz a = x at *
  go_enter Try.func32, Try.ntmps32
  go_wp2
  go_ret
  exact ⟨rfl, rfl⟩
theorem Signbit_no {a : Int} (ha : Sm a) (h0 : 0 ≤ a) (w : World) : Calls Try.prog 33 #[.float .f64 (fz a)] w fun e w' => e = .returned (.bool false) ∧ w = w' := by
  have h := fun w => bits_any (fz a) w
  have hlt := fz_lt ha h0
  generalize fz a = x at *
  have hx : (x : Int) < 9223372036854775808 := by omega
  have hx0 : (0 : Int) ≤ (x : Int) := by omega
  go_enter Try.func33, Try.ntmps33
  go_wp2
  go_ret
  exact ⟨rfl, rfl⟩
theorem neq0_fz {a : Int} (ha : Sm a) : (FloatKind.f64.format.order (fz a) 0 != some .eq) = decide (a ≠ 0) := by
  rw [← fz0, bne, eql_fz ha (by unfold Sm; decide)]
  by_cases h : a = 0 <;> simp [h]
theorem self_fz {a : Int} (ha : Sm a) : (FloatKind.f64.format.order (fz a) (fz a) == some .eq) = true := by rw [eql_fz ha ha]; simp
theorem whole_yes {a : Int} (h : Ft a) (w : World) : Calls Try.prog 31 #[.float .f64 (fz a)] w fun e w' => e = .returned (.bool true) ∧ w = w' := by
  have HT := Lib.hid (fun w => Trunc_any h.sm w)
  have g1 := geq_low h.sm
  have g2 := leq_top h.sm
  have g3 := self_fz h.sm
  have g4 := neq0_fz h.sm
  rw [decide_eq_true h.1] at g1
  rw [decide_eq_true h.2] at g2
  by_cases h0 : a = 0
  · have HS := Lib.hid (fun w => Signbit_no h.sm (by omega) w)
    rw [decide_eq_false (by omega)] at g4
    clear h h0
    generalize fz a = x at *
    go_enter Try.func31, Try.ntmps31
    go_wp2_with (first
      | (go_at_call 32; refine (HT.out _).mono ?_; rintro e w' ⟨rfl, rfl⟩)
      | (go_at_call 33; refine (HS.out _).mono ?_; rintro e w' ⟨rfl, rfl⟩))
    go_ret
    exact ⟨rfl, rfl⟩
  · rw [decide_eq_true h0] at g4
    clear h h0
    generalize fz a = x at *
    go_enter Try.func31, Try.ntmps31
    go_wp2_with (go_at_call 32; refine (HT.out _).mono ?_; rintro e w' ⟨rfl, rfl⟩)
    go_ret
    exact ⟨rfl, rfl⟩
theorem whole_no {a : Int} (hs : Sm a) (h : ¬ Ft a) (w : World) : Calls Try.prog 31 #[.float .f64 (fz a)] w fun e w' => e = .returned (.bool false) ∧ w = w' := by
  have g1 := geq_low hs
  have g2 := leq_top hs
  unfold Ft at h
  by_cases h1 : -33554432 ≤ a
  · rw [decide_eq_true h1] at g1
    rw [decide_eq_false (by omega)] at g2
    clear h h1 hs
    generalize fz a = x at *
    go_enter Try.func31, Try.ntmps31
    go_wp2
    go_ret
    exact ⟨rfl, rfl⟩
  · rw [decide_eq_false h1] at g1
    clear h h1 hs g2
    generalize fz a = x at *
    go_enter Try.func31, Try.ntmps31
    go_wp2
    go_ret
    exact ⟨rfl, rfl⟩
theorem is_yes {a b : Int} (ha : Ft a) (hb : Ft b) (w : World) : Calls Try.prog 29 #[cz a b] w fun e w' => e = .returned (.bool true) ∧ w = w' := by
  have HA := Lib.hid (fun w => whole_yes ha w)
  have HB := Lib.hid (fun w => whole_yes hb w)
  clear ha hb
  unfold cz
  generalize fz a = x at *
  generalize fz b = y at *
  go_enter Try.func29, Try.ntmps29
  go_wp2_with fail
  refine (HA.out _).mono ?_
  rintro e w' ⟨rfl, rfl⟩
  go_wp2_with fail
  refine (HB.out _).mono ?_
  rintro e w' ⟨rfl, rfl⟩
  go_wp2_with fail
  go_ret
  exact ⟨rfl, rfl⟩
theorem is_no {a b : Int} (ha : Sm a) (hb : Sm b) (h : ¬ (Ft a ∧ Ft b)) (w : World) : Calls Try.prog 29 #[cz a b] w fun e w' => e = .returned (.bool false) ∧ w = w' := by
  by_cases h1 : Ft a
  · have HA := Lib.hid (fun w => whole_yes h1 w)
    have HB := Lib.hid (fun w => whole_no hb (fun h2 => h ⟨h1, h2⟩) w)
    clear ha hb h h1
    unfold cz
    generalize fz a = x at *
    generalize fz b = y at *
    go_enter Try.func29, Try.ntmps29
    go_wp2_with fail
    refine (HA.out _).mono ?_
    rintro e w' ⟨rfl, rfl⟩
    go_wp2_with fail
    refine (HB.out _).mono ?_
    rintro e w' ⟨rfl, rfl⟩
    go_wp2_with fail
    go_ret
    exact ⟨rfl, rfl⟩
  · have HA := Lib.hid (fun w => whole_no ha h1 w)
    clear ha hb h h1
    unfold cz
    generalize fz a = x at *
    generalize fz b = y at *
    go_enter Try.func29, Try.ntmps29
    go_wp2_with fail
    refine (HA.out _).mono ?_
    rintro e w' ⟨rfl, rfl⟩
    go_wp2_with fail
    go_ret
    exact ⟨rfl, rfl⟩
def Fits (a b : Int) : Prop := Ft a ∧ Ft b
instance (a b : Int) : Decidable (Fits a b) := by unfold Fits Ft; infer_instance
/-- a number and a truth: 0 and false where a part is too great -/
def fitV (a b : Int) : Value := if Fits a b then .tuple #[cz a b, .bool true] else .tuple #[.complex .f64 0 0, .bool false]
theorem fitV_yes {a b : Int} (h : Fits a b) : fitV a b = .tuple #[cz a b, .bool true] := if_pos h
theorem fitV_no {a b : Int} (h : ¬ Fits a b) : fitV a b = .tuple #[.complex .f64 0 0, .bool false] := if_neg h
theorem make_yes {a b : Int} (ha : Ft a) (hb : Ft b) (w : World) : Calls Try.prog 26 #[.int .i64 a, .int .i64 b] w fun e w' => e = .returned (.tuple #[cz a b, .bool true]) ∧ w = w' := by
  obtain ⟨h1, h2⟩ := ha
  obtain ⟨h3, h4⟩ := hb
  go_enter Try.func26, Try.ntmps26
  go_wp2
  go_ret2
  exact ⟨rfl, rfl⟩
theorem make_no {a b : Int} (h : ¬ Fits a b) (w : World) : Calls Try.prog 26 #[.int .i64 a, .int .i64 b] w fun e w' => e = .returned (.tuple #[.complex .f64 0 0, .bool false]) ∧ w = w' := by
  have hc : a < -33554432 ∨ (-33554432 ≤ a ∧ 33554432 < a) ∨ (-33554432 ≤ a ∧ a ≤ 33554432 ∧ b < -33554432) ∨ (-33554432 ≤ a ∧ a ≤ 33554432 ∧ -33554432 ≤ b ∧ 33554432 < b) := by unfold Fits Ft at h; omega
  clear h
  rcases hc with h1 | ⟨h1, h2⟩ | ⟨h1, h2, h3⟩ | ⟨h1, h2, h3, h4⟩
  all_goals
    go_enter Try.func26, Try.ntmps26
    go_wp2
    go_ret2
    exact ⟨rfl, rfl⟩
theorem make_any (a b : Int) (w : World) : Calls Try.prog 26 #[.int .i64 a, .int .i64 b] w fun e w' => e = .returned (fitV a b) ∧ w = w' := by
  by_cases h : Fits a b
  · rw [fitV_yes h]; exact make_yes h.1 h.2 w
  · rw [fitV_no h]; exact make_no h w
end Go.Proofs.Ytndfkpajojbfkaa.Ga
