/-
  gauss: whole, Is, plain.
-/
import Derived.Test.YtpacmghekfkidaaGauss2
namespace Go.Proofs.Ytpacmghekfkidaa.Ga
open Fl Go.RowKit
set_option linter.unusedVariables false

theorem neq0_fz {a : Int} (ha : Sm a) : (FloatKind.f64.format.order (fz a) 0 != some .eq) = decide (a ≠ 0) := by
  rw [← fz0, bne, eql_fz ha (by unfold Sm; decide)]
  by_cases h : a = 0 <;> simp [h]
theorem self_fz {a : Int} (ha : Sm a) : (FloatKind.f64.format.order (fz a) (fz a) == some .eq) = true := by rw [eql_fz ha ha]; simp
theorem whole_yes {a : Int} (h : Ft a) (w : World) : Calls Try.prog 28 #[.float .f64 (fz a)] w fun e w' => e = .returned (.bool true) ∧ w = w' := by
  have HT := Lib.hid (fun w => Trunc_any h.sm w)
  have g1 := geq_low h.sm
  have g2 := leq_top h.sm
  have g3 := self_fz h.sm
  have g4 := neq0_fz h.sm
  rw [decide_eq_true h.1] at g1
  rw [decide_eq_true h.2] at g2
  by_cases h0 : a = 0
  · have HS := Lib.hid (fun w => Signbit_no h.sm (by omega) w)
    rw [decide_eq_false (by omega)] at g4
    clear h h0
    generalize fz a = x at *
    go_enter Try.func28, Try.ntmps28
    go_wp2_with (first
      | (go_at_call 29; refine (HT.out _).mono ?_; rintro e w' ⟨rfl, rfl⟩)
      | (go_at_call 30; refine (HS.out _).mono ?_; rintro e w' ⟨rfl, rfl⟩))
    go_ret
    exact ⟨rfl, rfl⟩
  · rw [decide_eq_true h0] at g4
    clear h h0
    generalize fz a = x at *
    go_enter Try.func28, Try.ntmps28
    go_wp2_with (go_at_call 29; refine (HT.out _).mono ?_; rintro e w' ⟨rfl, rfl⟩)
    go_ret
    exact ⟨rfl, rfl⟩
theorem whole_no {a : Int} (hs : Sm a) (h : ¬ Ft a) (w : World) : Calls Try.prog 28 #[.float .f64 (fz a)] w fun e w' => e = .returned (.bool false) ∧ w = w' := by
  have g1 := geq_low hs
  have g2 := leq_top hs
  unfold Ft at h
  by_cases h1 : -33554432 ≤ a
  · rw [decide_eq_true h1] at g1
    rw [decide_eq_false (by omega)] at g2
    clear h h1 hs
    generalize fz a = x at *
    go_enter Try.func28, Try.ntmps28
    go_wp2
    go_ret
    exact ⟨rfl, rfl⟩
  · rw [decide_eq_false h1] at g1
    clear h h1 hs g2
    generalize fz a = x at *
    go_enter Try.func28, Try.ntmps28
    go_wp2
    go_ret
    exact ⟨rfl, rfl⟩
theorem is_yes {a b : Int} (ha : Ft a) (hb : Ft b) (w : World) : Calls Try.prog 24 #[cz a b] w fun e w' => e = .returned (.bool true) ∧ w = w' := by
  have HA := Lib.hid (fun w => whole_yes ha w)
  have HB := Lib.hid (fun w => whole_yes hb w)
  clear ha hb
  unfold cz
  generalize fz a = x at *
  generalize fz b = y at *
  go_enter Try.func24, Try.ntmps24
  go_wp2_with fail
  refine (HA.out _).mono ?_
  rintro e w' ⟨rfl, rfl⟩
  go_wp2_with fail
  refine (HB.out _).mono ?_
  rintro e w' ⟨rfl, rfl⟩
  go_wp2_with fail
  go_ret
  exact ⟨rfl, rfl⟩
theorem is_no {a b : Int} (ha : Sm a) (hb : Sm b) (h : ¬ (Ft a ∧ Ft b)) (w : World) : Calls Try.prog 24 #[cz a b] w fun e w' => e = .returned (.bool false) ∧ w = w' := by
  by_cases h1 : Ft a
  · have HA := Lib.hid (fun w => whole_yes h1 w)
    have HB := Lib.hid (fun w => whole_no hb (fun h2 => h ⟨h1, h2⟩) w)
    clear ha hb h h1
    unfold cz
    generalize fz a = x at *
    generalize fz b = y at *
    go_enter Try.func24, Try.ntmps24
    go_wp2_with fail
    refine (HA.out _).mono ?_
    rintro e w' ⟨rfl, rfl⟩
    go_wp2_with fail
    refine (HB.out _).mono ?_
    rintro e w' ⟨rfl, rfl⟩
    go_wp2_with fail
    go_ret
    exact ⟨rfl, rfl⟩
  · have HA := Lib.hid (fun w => whole_no ha h1 w)
    clear ha hb h h1
    unfold cz
    generalize fz a = x at *
    generalize fz b = y at *
    go_enter Try.func24, Try.ntmps24
    go_wp2_with fail
    refine (HA.out _).mono ?_
    rintro e w' ⟨rfl, rfl⟩
    go_wp2_with fail
    go_ret
    exact ⟨rfl, rfl⟩
def Fits (a b : Int) : Prop := Ft a ∧ Ft b
instance (a b : Int) : Decidable (Fits a b) := by unfold Fits Ft; infer_instance
/-- a number and a truth: 0 and false where a part is too great -/
def fitV (a b : Int) : Value := if Fits a b then .tuple #[cz a b, .bool true] else .tuple #[.complex .f64 0 0, .bool false]
theorem fitV_yes {a b : Int} (h : Fits a b) : fitV a b = .tuple #[cz a b, .bool true] := if_pos h
theorem fitV_no {a b : Int} (h : ¬ Fits a b) : fitV a b = .tuple #[.complex .f64 0 0, .bool false] := if_neg h
theorem plain_any {x y : Nat} {s t : Bool} {a b : Int} (hx : Rep x s a) (hy : Rep y t b) (ha : Sm a) (hb : Sm b) (w : World) :
    Calls Try.prog 25 #[.complex .f64 x y] w fun e w' => e = .returned (fitV a b) ∧ w = w' := by
  have k1 := fun w => run_complex_sum (P := Try.prog) w .add (.inl rfl) 25 .f64 x y 0 0 _ _ (add0_rep hx hy ha hb)
  have k2 := fun w => run_float_arith (P := Try.prog) w .add 22 .f64 (fz a) 0 _ (add_zero_fz ha)
  have k3 := fun w => run_float_arith (P := Try.prog) w .add 22 .f64 (fz b) 0 _ (add_zero_fz hb)
  by_cases h : Fits a b
  · have HI := Lib.hid (fun w => is_yes h.1 h.2 w)
    unfold cz at HI
    rw [fitV_yes h]
    unfold cz
    clear h hx hy ha hb
    generalize fz a = p at *
    generalize fz b = q at *
    go_enter Try.func25, Try.ntmps25
    go_wp2_with fail
    refine (HI.out _).mono ?_
    rintro e w' ⟨rfl, rfl⟩
    go_wp2_with fail
    go_ret2
    exact ⟨rfl, rfl⟩
  · have HI := Lib.hid (fun w => is_no ha hb h w)
    unfold cz at HI
    rw [fitV_no h]
    clear h hx hy ha hb
    generalize fz a = p at *
    generalize fz b = q at *
    go_enter Try.func25, Try.ntmps25
    go_wp2_with fail
    refine (HI.out _).mono ?_
    rintro e w' ⟨rfl, rfl⟩
    go_wp2_with fail
    go_ret2
    exact ⟨rfl, rfl⟩
end Go.Proofs.Ytpacmghekfkidaa.Ga
