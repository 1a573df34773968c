/-
  gauss: facts for the laws.
-/
import Derived.Test.YtpacmghekfkidaaGauss7
namespace Go.Proofs.Ytpacmghekfkidaa.Ga
open Fl Go.RowKit Pl
set_option linter.unusedVariables false

theorem gtr_zero {a : Int} (ha : Sm a) (h : 0 < a) : (FloatKind.f64.format.order (fz a) 0 == some .gt) = true := by
  rw [← fz0, order_fz ha (by unfold Sm; decide), cmp_gt]
  simp
  omega
theorem geq_zero {a : Int} (ha : Sm a) (h : 0 ≤ a) : (FloatKind.f64.format.order (fz a) 0 == some .gt || FloatKind.f64.format.order (fz a) 0 == some .eq) = true := by
  rw [← fz0, order_fz ha (by unfold Sm; decide), cmp_gt, cmp_eq]
  simp
  omega
theorem e00 : (FloatKind.f64.format.order 0 0 == some .eq) = true := by decide +kernel
theorem turn_back (a b : Int) {m : Nat} (hm : m < 4) : turnN ((4 - (m : Int)) % 4).toNat (turnN m a b).1 (turnN m a b).2 = (a, b) := by
  have h : m = 0 ∨ m = 1 ∨ m = 2 ∨ m = 3 := by omega
  rcases h with rfl | rfl | rfl | rfl
  · rfl
  · show (-(turnN 2 (-b) a).2, (turnN 2 (-b) a).1) = (a, b)
    simp [turnN]
  · show (- - a, - - b) = (a, b)
    rw [Int.neg_neg, Int.neg_neg]
  · show (-(turnN 3 a b).2, (turnN 3 a b).1) = (a, b)
    simp [turnN]
theorem turnN_norm (a b : Int) : ∀ n, norm (turnN n a b).1 (turnN n a b).2 = norm a b
  | 0 => rfl
  | n + 1 => by
    rw [← turnN_norm a b n]
    unfold norm
    show -(turnN n a b).2 * -(turnN n a b).2 + (turnN n a b).1 * (turnN n a b).1 = _
    grind
theorem turnN_quad (a b : Int) : ∀ n, quad (turnN n a b).1 (turnN n a b).2 = quad a b
  | 0 => rfl
  | n + 1 => by
    rw [← turnN_quad a b n]
    show quad (-(turnN n a b).2) (turnN n a b).1 = _
    generalize (turnN n a b).1 = p
    generalize (turnN n a b).2 = q
    unfold quad
    (repeat' split) <;> first | (exfalso; omega) | rfl | (rw [Int.neg_neg]) | (simp only [Prod.mk.injEq]; omega)
theorem turnN_dv {a b : Int} : ∀ n, Dv (turnN n a b).1 (turnN n a b).2 a b
  | 0 => Dv.self a b
  | n + 1 => (turnN_dv n).turnL
theorem turnN_zero : ∀ n, turnN n 0 0 = (0, 0)
  | 0 => rfl
  | n + 1 => by
    show (-(turnN n 0 0).2, (turnN n 0 0).1) = (0, 0)
    rw [turnN_zero n]
    rfl
theorem gcd_divided {a b c d : Int} (h : ¬ (c = 0 ∧ d = 0)) (hd : Dv c d a b) : gcdE a b c d = (c, d) := by
  have := rest_dv (norm_pos h) hd
  rw [gcd_step h, this.1, this.2, gcd_stop]
theorem gcd_zero_left (c d : Int) : gcdE 0 0 c d = (c, d) := by
  by_cases h : c = 0 ∧ d = 0
  · obtain ⟨rfl, rfl⟩ := h; rw [gcd_stop]
  · exact gcd_divided h (Dv.zero c d)
theorem dv_zero {a b : Int} (h : Dv 0 0 a b) : a = 0 ∧ b = 0 := by
  obtain ⟨m, n, h1, h2⟩ := h
  omega
end Go.Proofs.Ytpacmghekfkidaa.Ga
