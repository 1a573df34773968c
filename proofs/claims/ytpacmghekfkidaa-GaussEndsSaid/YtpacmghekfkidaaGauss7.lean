/-
  gauss: the law's awake.
-/
import Derived.Test.YtpacmghekfkidaaGauss6
import Derived.Test.YtpacmghekfkidaaPlace
namespace Go.Proofs.Ytpacmghekfkidaa.Ga
open Fl Go.RowKit
set_option linter.unusedVariables false

theorem c12 : cz 1 2 = .complex .f64 4607182418800017408 4611686018427387904 := by
  unfold cz
  rw [show fz 1 = 4607182418800017408 by decide +kernel, show fz 2 = 4611686018427387904 by decide +kernel]
theorem c31 : cz 3 (-1) = .complex .f64 4613937818241073152 13830554455654793216 := by
  unfold cz
  rw [show fz 3 = 4613937818241073152 by decide +kernel, show fz (-1) = 13830554455654793216 by decide +kernel]
theorem c55 : cz 5 5 = .complex .f64 4617315517961601024 4617315517961601024 := by
  unfold cz
  rw [show fz 5 = 4617315517961601024 by decide +kernel]
theorem c40 : cz 4 0 = .complex .f64 4616189618054758400 0 := by
  unfold cz
  rw [show fz 4 = 4616189618054758400 by decide +kernel, show fz 0 = 0 by decide +kernel]
theorem c22 : cz 2 2 = .complex .f64 4611686018427387904 4611686018427387904 := by
  unfold cz
  rw [show fz 2 = 4611686018427387904 by decide +kernel]
theorem qx_a : qx 5 5 3 (-1) = 1 ∧ qy 5 5 3 (-1) = 2 ∧ rx 5 5 3 (-1) = 0 ∧ ry 5 5 3 (-1) = 0 := by decide
theorem gcd_a : gcdE 4 0 2 2 = (2, 2) := by
  rw [gcd_step (by decide), show rx 4 0 2 2 = 0 by decide, show ry 4 0 2 2 = 0 by decide, gcd_stop]
theorem awake_mul (w : World) : Calls Try.prog 12 #[.complex .f64 4607182418800017408 4611686018427387904, .complex .f64 4613937818241073152 13830554455654793216] w fun e w' => e = .returned (.tuple #[.complex .f64 4617315517961601024 4617315517961601024, .bool true]) ∧ w = w' := by
  rw [← c12, ← c31, ← c55]
  have h := mul_any (a := 1) (b := 2) (c := 3) (d := -1) (by decide) (by decide) (by decide) (by decide) w
  rw [show (1 : Int) * 3 - 2 * -1 = 5 by decide, show (1 : Int) * -1 + 2 * 3 = 5 by decide, fitV_yes (by decide)] at h
  exact h
theorem awake_div (w : World) : Calls Try.prog 15 #[.complex .f64 4617315517961601024 4617315517961601024, .complex .f64 4613937818241073152 13830554455654793216] w fun e w' => e = .returned (.tuple #[.complex .f64 4607182418800017408 4611686018427387904, .complex .f64 0 0, .bool true]) ∧ w = w' := by
  rw [← c12, ← c31, ← c55, ← cz00]
  have h := div_yes (a := 5) (b := 5) (c := 3) (d := -1) (by decide) (by decide) (by decide) (by decide) (by decide) w
  rw [qx_a.1, qx_a.2.1, qx_a.2.2.1, qx_a.2.2.2] at h
  exact h
theorem awake_gcd (w : World) : Calls Try.prog 13 #[.complex .f64 4616189618054758400 0, .complex .f64 4611686018427387904 4611686018427387904] w fun e w' => e = .returned (.tuple #[.complex .f64 4611686018427387904 4611686018427387904, .bool true]) ∧ w = w' := by
  rw [← c40, ← c22]
  have h := gcd_any (a := 4) (b := 0) (c := 2) (d := 2) (by decide) (by decide) (by decide) (by decide) w
  rw [gcd_a] at h
  exact h
theorem awake_any (w : World) : Calls Try.prog 14 #[] w fun e w' => e = .returned (.bool true) ∧ w = w' := by
  have e1 : (FloatKind.f64.format.order 4617315517961601024 4617315517961601024 == some .eq) = true := by decide +kernel
  have e2 : (FloatKind.f64.format.order 4607182418800017408 4607182418800017408 == some .eq) = true := by decide +kernel
  have e3 : (FloatKind.f64.format.order 4611686018427387904 4611686018427387904 == some .eq) = true := by decide +kernel
  have e4 : (FloatKind.f64.format.order 0 0 == some .eq) = true := by decide +kernel
  go_enter Try.func14, Try.ntmps14
  go_wp2_with fail
  refine (awake_mul _).mono ?_
  rintro e w' ⟨rfl, rfl⟩
  go_wp2_with fail
  refine (awake_div _).mono ?_
  rintro e w' ⟨rfl, rfl⟩
  go_wp2_with fail
  refine (awake_gcd _).mono ?_
  rintro e w' ⟨rfl, rfl⟩
  go_wp2_with fail
  go_ret
  exact ⟨rfl, rfl⟩

section
variable {a b c d X Y : Int}
theorem mul_to (ha : Ft a) (hb : Ft b) (hc : Ft c) (hd : Ft d) (hX : a * c - b * d = X) (hY : a * d + b * c = Y) (fX : Ft X) (fY : Ft Y) (w : World) :
    Calls Try.prog 12 #[.complex .f64 (fz a) (fz b), .complex .f64 (fz c) (fz d)] w fun e w' => e = .returned (.tuple #[.complex .f64 (fz X) (fz Y), .bool true]) ∧ w = w' := by
  subst hX; subst hY
  have h := mul_any ha hb hc hd w
  rw [fitV_yes ⟨fX, fY⟩] at h
  exact h
theorem add_to (ha : Ft a) (hb : Ft b) (hc : Ft c) (hd : Ft d) (hX : a + c = X) (hY : b + d = Y) (fX : Ft X) (fY : Ft Y) (w : World) :
    Calls Try.prog 20 #[.complex .f64 (fz a) (fz b), .complex .f64 (fz c) (fz d)] w fun e w' => e = .returned (.tuple #[.complex .f64 (fz X) (fz Y), .bool true]) ∧ w = w' := by
  subst hX; subst hY
  have h := add_any ha hb hc hd w
  rw [fitV_yes ⟨fX, fY⟩] at h
  exact h
theorem conj_to (ha : Ft a) (hb : Ft b) (hY : -b = Y) (w : World) :
    Calls Try.prog 22 #[.complex .f64 (fz a) (fz b)] w fun e w' => e = .returned (.tuple #[.complex .f64 (fz a) (fz Y), .bool true]) ∧ w = w' := by
  subst hY
  exact conj_any ha hb w
theorem norm_to {n : Int} (ha : Ft a) (hb : Ft b) (hn : norm a b = n) (w : World) :
    Calls Try.prog 18 #[.complex .f64 (fz a) (fz b)] w fun e w' => e = .returned (.tuple #[.int .i64 n, .bool true]) ∧ w = w' := by
  subst hn
  exact norm_any ha hb w
theorem make_to (ha : Ft a) (hb : Ft b) (w : World) :
    Calls Try.prog 16 #[.int .i64 a, .int .i64 b] w fun e w' => e = .returned (.tuple #[.complex .f64 (fz a) (fz b), .bool true]) ∧ w = w' := make_yes ha hb w
theorem div_to {R S : Int} (ha : Ft a) (hb : Ft b) (hc : Ft c) (hd : Ft d) (hn : 0 < norm c d) (hX : qx a b c d = X) (hY : qy a b c d = Y) (hR : rx a b c d = R) (hS : ry a b c d = S) (w : World) :
    Calls Try.prog 15 #[.complex .f64 (fz a) (fz b), .complex .f64 (fz c) (fz d)] w fun e w' => e = .returned (.tuple #[.complex .f64 (fz X) (fz Y), .complex .f64 (fz R) (fz S), .bool true]) ∧ w = w' := by
  subst hX; subst hY; subst hR; subst hS
  exact div_yes ha hb hc hd hn w
theorem gcd_to (ha : Ft a) (hb : Ft b) (hc : Ft c) (hd : Ft d) (hX : (quad (gcdE a b c d).1 (gcdE a b c d).2).1 = X) (hY : (quad (gcdE a b c d).1 (gcdE a b c d).2).2 = Y) (w : World) :
    Calls Try.prog 13 #[.complex .f64 (fz a) (fz b), .complex .f64 (fz c) (fz d)] w fun e w' => e = .returned (.tuple #[.complex .f64 (fz X) (fz Y), .bool true]) ∧ w = w' := by
  subst hX; subst hY
  exact gcd_any ha hb hc hd w
theorem turn_to {n : Int} (ha : Ft a) (hb : Ft b) (hX : (turnN (n % 4).toNat a b).1 = X) (hY : (turnN (n % 4).toNat a b).2 = Y) (w : World) :
    Calls Try.prog 17 #[.complex .f64 (fz a) (fz b), .int .i64 n] w fun e w' => e = .returned (.tuple #[.complex .f64 (fz X) (fz Y), .bool true]) ∧ w = w' := by
  subst hX; subst hY
  exact turn_any ha hb n w
theorem mul2_bd {A C : Int} (h1 : -A ≤ a ∧ a ≤ A) (h2 : -A ≤ b ∧ b ≤ A) (h3 : -C ≤ c ∧ c ≤ C) (h4 : -C ≤ d ∧ d ≤ C) :
    (-(2 * (A * C)) ≤ a * c - b * d ∧ a * c - b * d ≤ 2 * (A * C)) ∧ (-(2 * (A * C)) ≤ a * d + b * c ∧ a * d + b * c ≤ 2 * (A * C)) := by
  have k1 := mul_bd h1.1 h1.2 h3.1 h3.2
  have k2 := mul_bd h2.1 h2.2 h4.1 h4.2
  have k3 := mul_bd h1.1 h1.2 h4.1 h4.2
  have k4 := mul_bd h2.1 h2.2 h3.1 h3.2
  omega
end
end Go.Proofs.Ytpacmghekfkidaa.Ga
