/-
  'GaussEnds' walked.
-/
import Derived.Test.YtpacmghekfkidaaGauss8
namespace Go.Proofs.Ytpacmghekfkidaa.Ga
open Fl Go.RowKit Pl
set_option linter.unusedVariables false

theorem mul_out {a b c d : Int} (ha : Ft a) (hb : Ft b) (hc : Ft c) (hd : Ft d) (h : ¬ Fits (a * c - b * d) (a * d + b * c)) (w : World) :
    Calls Try.prog 12 #[cz a b, cz c d] w fun e w' => e = .returned (.tuple #[.complex .f64 0 0, .bool false]) ∧ w = w' := by
  have k := mul_any ha hb hc hd w
  rw [fitV_no h] at k
  exact k
theorem add_out {a b c d : Int} (ha : Ft a) (hb : Ft b) (hc : Ft c) (hd : Ft d) (h : ¬ Fits (a + c) (b + d)) (w : World) :
    Calls Try.prog 20 #[cz a b, cz c d] w fun e w' => e = .returned (.tuple #[.complex .f64 0 0, .bool false]) ∧ w = w' := by
  have k := add_any ha hb hc hd w
  rw [fitV_no h] at k
  exact k
theorem f1 : fz 1 = 4607182418800017408 := by decide +kernel
theorem fm1 : fz (-1) = 13830554455654793216 := by decide +kernel
theorem f2 : fz 2 = 4611686018427387904 := by decide +kernel
theorem f4096 : fz 4096 = 4661225614328463360 := by decide +kernel
theorem f8192 : fz 8192 = 4665729213955833856 := by decide +kernel
theorem f8193 : fz 8193 = 4665729763711647744 := by decide +kernel
theorem ft1 : fz 33554431 = 4719772409215844352 := by decide +kernel
theorem ft1' : fz (-33554431) = 13943144446070620160 := by decide +kernel
set_option maxRecDepth 100000 in
set_option maxHeartbeats 1000000 in
theorem ends_walk (w : World) : Calls Try.prog 9 #[] w fun e w' => e = .returned (.bool true) ∧ Below w.heap.size w w' := by
  have A1 := Lib.hid (make_to (a := 33554432) (b := -33554432) (by decide) (by decide))
  have A2 := Lib.hid (make_no (a := 33554433) (b := 0) (by decide))
  have S1 := Lib.hid (add_out (a := 33554432) (b := -33554432) (c := 1) (d := 0) (by decide) (by decide) (by decide) (by decide) (by decide))
  have S2 := Lib.hid (add_to (a := 33554432) (b := -33554432) (c := -1) (d := 1) (by decide) (by decide) (by decide) (by decide) (X := 33554431) (Y := -33554431) (by decide) (by decide) (by decide) (by decide))
  have M1 := Lib.hid (mul_out (a := 33554432) (b := -33554432) (c := 2) (d := 0) (by decide) (by decide) (by decide) (by decide) (by decide))
  have M2 := Lib.hid (mul_to (a := 4096) (b := 0) (c := 8192) (d := 0) (by decide) (by decide) (by decide) (by decide) (X := 33554432) (Y := 0) (by decide) (by decide) (by decide) (by decide))
  have M3 := Lib.hid (mul_out (a := 4096) (b := 0) (c := 8193) (d := 0) (by decide) (by decide) (by decide) (by decide) (by decide))
  have T1 := Lib.hid (turn_to (n := 1) (a := 33554432) (b := -33554432) (by decide) (by decide) (X := 33554432) (Y := 33554432) (by decide) (by decide))
  have N1 := Lib.hid (norm_to (a := 33554432) (b := -33554432) (by decide) (by decide) (n := 2251799813685248) (by decide))
  unfold cz at S1 M1 M3
  rw [fzTop, fzLow] at A1 S1 S2 M1 N1 T1
  rw [f1, fz0] at S1
  rw [f1, fm1, ft1, ft1'] at S2
  rw [f2, fz0] at M1
  rw [f4096, f8192, fz0, fzTop] at M2
  rw [f4096, f8193, fz0] at M3
  have E1 : (FloatKind.f64.format.order 4719772409215844352 4719772409215844352 == some .eq) = true := by decide +kernel
  have E2 : (FloatKind.f64.format.order 13943144446070620160 13943144446070620160 == some .eq) = true := by decide +kernel
  have E3 : (FloatKind.f64.format.order 4719772409484279808 4719772409484279808 == some .eq) = true := by decide +kernel
  go_enter Try.func9, Try.ntmps9
  go_wp2_with fail
  refine (A1.out _).mono ?_
  rintro e w' ⟨rfl, rfl⟩
  go_wp2_with fail
  refine (A2.out _).mono ?_
  rintro e w' ⟨rfl, rfl⟩
  go_wp2_with fail
  refine (S1.out _).mono ?_
  rintro e w' ⟨rfl, rfl⟩
  go_wp2_with fail
  refine (S2.out _).mono ?_
  rintro e w' ⟨rfl, rfl⟩
  go_wp2_with fail
  refine (M1.out _).mono ?_
  rintro e w' ⟨rfl, rfl⟩
  go_wp2_with fail
  refine (M2.out _).mono ?_
  rintro e w' ⟨rfl, rfl⟩
  go_wp2_with fail
  refine (M3.out _).mono ?_
  rintro e w' ⟨rfl, rfl⟩
  go_wp2_with fail
  refine (T1.out _).mono ?_
  rintro e w' ⟨rfl, rfl⟩
  go_wp2_with fail
  refine (N1.out _).mono ?_
  rintro e w' ⟨rfl, rfl⟩
  go_wp2_with fail
  refine (awake_any _).mono ?_
  rintro e w' ⟨rfl, rfl⟩
  go_wp2_with fail
  go_ret
  exact ⟨rfl, Below.refl _ _⟩
end Go.Proofs.Ytpacmghekfkidaa.Ga
