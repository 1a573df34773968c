/-
  gauss: sums, products, quotients; turns.
-/
import Derived.Test.YtpacmghekfkidaaGauss3
import Derived.IntWalk
namespace Go.Proofs.Ytpacmghekfkidaa.Ga
open Fl Go.RowKit
set_option linter.unusedVariables false

theorem mul_any {a b c d : Int} (ha : Ft a) (hb : Ft b) (hc : Ft c) (hd : Ft d) (w : World) :
    Calls Try.prog 12 #[cz a b, cz c d] w fun e w' => e = .returned (fitV (a * c - b * d) (a * d + b * c)) ∧ w = w' := by
  obtain ⟨x, y, s, t, hm, hx, hy⟩ := mul_cz ha hb hc hd
  have k1 := fun w => run_complex_mul (P := Try.prog) w 25 (fz a) (fz b) (fz c) (fz d) _ _ hm
  have HP := Lib.hid (fun w => plain_any hx hy (by have := prod_bd ha hc; have := prod_bd hb hd; unfold Sm; omega) (by have := prod_bd ha hd; have := prod_bd hb hc; unfold Sm; omega) w)
  have H1 := Lib.hid (fun w => is_yes ha hb w)
  have H2 := Lib.hid (fun w => is_yes hc hd w)
  clear hm hx hy ha hb hc hd
  unfold cz at H1 H2 ⊢
  generalize a * c - b * d = re at *
  generalize a * d + b * c = im at *
  generalize fz a = p at *
  generalize fz b = q at *
  generalize fz c = r at *
  generalize fz d = u at *
  by_cases h : Fits re im
  all_goals
    first | rw [fitV_yes h] at HP ⊢ | rw [fitV_no h] at HP ⊢
    clear h
    go_enter Try.func12, Try.ntmps12
    go_wp2_with fail
    refine (H1.out _).mono ?_
    rintro e w' ⟨rfl, rfl⟩
    go_wp2_with fail
    refine (H2.out _).mono ?_
    rintro e w' ⟨rfl, rfl⟩
    go_wp2_with fail
    refine (HP.out _).mono ?_
    rintro e w' ⟨rfl, rfl⟩
    go_wp2_with fail
    go_ret2
    exact ⟨rfl, rfl⟩
theorem add_any {a b c d : Int} (ha : Ft a) (hb : Ft b) (hc : Ft c) (hd : Ft d) (w : World) :
    Calls Try.prog 20 #[cz a b, cz c d] w fun e w' => e = .returned (fitV (a + c) (b + d)) ∧ w = w' := by
  obtain ⟨x, y, s, t, hm, hx, hy⟩ := add_cz ha hb hc hd
  have k1 := fun w => run_complex_sum (P := Try.prog) w .add (.inl rfl) 25 .f64 (fz a) (fz b) (fz c) (fz d) _ _ hm
  have HP := Lib.hid (fun w => plain_any hx hy (by unfold Ft at *; unfold Sm; omega) (by unfold Ft at *; unfold Sm; omega) w)
  have H1 := Lib.hid (fun w => is_yes ha hb w)
  have H2 := Lib.hid (fun w => is_yes hc hd w)
  clear hm hx hy ha hb hc hd
  unfold cz at H1 H2 ⊢
  generalize a + c = re at *
  generalize b + d = im at *
  generalize fz a = p at *
  generalize fz b = q at *
  generalize fz c = r at *
  generalize fz d = u at *
  by_cases h : Fits re im
  all_goals
    first | rw [fitV_yes h] at HP ⊢ | rw [fitV_no h] at HP ⊢
    clear h
    go_enter Try.func20, Try.ntmps20
    go_wp2_with fail
    refine (H1.out _).mono ?_
    rintro e w' ⟨rfl, rfl⟩
    go_wp2_with fail
    refine (H2.out _).mono ?_
    rintro e w' ⟨rfl, rfl⟩
    go_wp2_with fail
    refine (HP.out _).mono ?_
    rintro e w' ⟨rfl, rfl⟩
    go_wp2_with fail
    go_ret2
    exact ⟨rfl, rfl⟩
theorem conj_any {a b : Int} (ha : Ft a) (hb : Ft b) (w : World) :
    Calls Try.prog 22 #[cz a b] w fun e w' => e = .returned (.tuple #[cz a (-b), .bool true]) ∧ w = w' := by
  have HP := Lib.hid (fun w => plain_any (rep_fz ha.sm) (neg_of (rep_fz hb.sm) hb.sm) ha.sm hb.neg.sm w)
  have H1 := Lib.hid (fun w => is_yes ha hb w)
  have hn : ∀ b, Op.unary .neg (.float .f64 b) = pure (.float .f64 (Op.negFloat .f64 b)) := fun _ => rfl
  rw [fitV_yes ⟨ha, hb.neg⟩] at HP
  clear ha hb
  unfold cz at H1 ⊢
  unfold cz at HP
  generalize fz (-b) = r at *
  generalize fz a = p at *
  generalize fz b = q at *
  go_enter Try.func22, Try.ntmps22
  go_wp2_with fail
  refine (H1.out _).mono ?_
  rintro e w' ⟨rfl, rfl⟩
  go_wp2_with fail
  refine (HP.out _).mono ?_
  rintro e w' ⟨rfl, rfl⟩
  go_wp2_with fail
  go_ret2
  exact ⟨rfl, rfl⟩
theorem make_yes {a b : Int} (ha : Ft a) (hb : Ft b) (w : World) : Calls Try.prog 16 #[.int .i64 a, .int .i64 b] w fun e w' => e = .returned (.tuple #[cz a b, .bool true]) ∧ w = w' := by
  obtain ⟨h1, h2⟩ := ha
  obtain ⟨h3, h4⟩ := hb
  go_enter Try.func16, Try.ntmps16
  go_wp2
  go_ret2
  exact ⟨rfl, rfl⟩
theorem make_no {a b : Int} (h : ¬ Fits a b) (w : World) : Calls Try.prog 16 #[.int .i64 a, .int .i64 b] w fun e w' => e = .returned (.tuple #[.complex .f64 0 0, .bool false]) ∧ w = w' := by
  have hc : a < -33554432 ∨ (-33554432 ≤ a ∧ 33554432 < a) ∨ (-33554432 ≤ a ∧ a ≤ 33554432 ∧ b < -33554432) ∨ (-33554432 ≤ a ∧ a ≤ 33554432 ∧ -33554432 ≤ b ∧ 33554432 < b) := by unfold Fits Ft at h; omega
  clear h
  rcases hc with h1 | ⟨h1, h2⟩ | ⟨h1, h2, h3⟩ | ⟨h1, h2, h3, h4⟩
  all_goals
    go_enter Try.func16, Try.ntmps16
    go_wp2
    go_ret2
    exact ⟨rfl, rfl⟩
theorem make_any (a b : Int) (w : World) : Calls Try.prog 16 #[.int .i64 a, .int .i64 b] w fun e w' => e = .returned (fitV a b) ∧ w = w' := by
  by_cases h : Fits a b
  · rw [fitV_yes h]; exact make_yes h.1 h.2 w
  · rw [fitV_no h]; exact make_no h w
theorem parts_any {a b : Int} (ha : Ft a) (hb : Ft b) (w : World) : Calls Try.prog 26 #[cz a b] w fun e w' => e = .returned (.tuple #[.int .i64 a, .int .i64 b, .bool true]) ∧ w = w' := by
  have k1 := fun w => run_convert_float_int (P := Try.prog) w 22 3 .f64 .i64 (fz a) a (by rw [Try.underlying22]; rfl) Try.underlying3 (conv_fz ha.sm)
  have k2 := fun w => run_convert_float_int (P := Try.prog) w 22 3 .f64 .i64 (fz b) b (by rw [Try.underlying22]; rfl) Try.underlying3 (conv_fz hb.sm)
  have H1 := Lib.hid (fun w => is_yes ha hb w)
  clear ha hb
  unfold cz at H1 ⊢
  generalize fz a = p at *
  generalize fz b = q at *
  go_enter Try.func26, Try.ntmps26
  go_wp2_with fail
  refine (H1.out _).mono ?_
  rintro e w' ⟨rfl, rfl⟩
  go_wp2_with fail
  go_ret3
  exact ⟨rfl, rfl⟩
theorem norm_any {a b : Int} (ha : Ft a) (hb : Ft b) (w : World) : Calls Try.prog 18 #[cz a b] w fun e w' => e = .returned (.tuple #[.int .i64 (norm a b), .bool true]) ∧ w = w' := by
  have b1 := prod_bd ha ha
  have b2 := prod_bd hb hb
  obtain ⟨b1, b1'⟩ := b1
  obtain ⟨b2, b2'⟩ := b2
  have H1 := Lib.hid (fun w => parts_any ha hb w)
  clear ha hb
  unfold cz at H1 ⊢
  go_enter Try.func18, Try.ntmps18
  go_wp2_with fail
  refine (H1.out _).mono ?_
  rintro e w' ⟨rfl, rfl⟩
  go_wp2_with fail
  go_ret2
  exact ⟨rfl, rfl⟩
theorem near_any {a b : Int} (ha : -4503599627370496 ≤ a) (ha' : a ≤ 4503599627370496) (hb : 1 ≤ b) (hb' : b ≤ 4503599627370496) (w : World) :
    Calls Try.prog 27 #[.int .i64 a, .int .i64 b] w fun e w' => e = .returned (.int .i64 (nearZ a b)) ∧ w = w' := by
  have h1 := Int.tmod_add_mul_tdiv (2 * a - b) (2 * b)
  have h2 := Int.tmod_lt_of_pos (2 * a - b) (show 0 < 2 * b by omega)
  have h3 : -(2 * b) < (2 * a - b).tmod (2 * b) := Int.lt_tmod_of_pos (2 * a - b) (by omega)
  have h6 : (2 * a - b).tdiv (2 * b) * 2 * b = 2 * b * (2 * a - b).tdiv (2 * b) := by grind
  have q1 : -72057594037927936 ≤ (2 * a - b).tdiv (2 * b) * 2 * b := by omega
  have q2 : (2 * a - b).tdiv (2 * b) * 2 * b ≤ 72057594037927936 := by omega
  have q3 : -72057594037927936 ≤ (2 * a - b).tdiv (2 * b) ∧ (2 * a - b).tdiv (2 * b) ≤ 72057594037927936 := by
    have hq : ((2 * a - b).tdiv (2 * b)).natAbs ≤ (2 * a - b).natAbs := by rw [Int.natAbs_tdiv]; exact Nat.div_le_self _ _
    omega
  obtain ⟨q3, q4⟩ := q3
  have HN : Hid (nearZ a b = if (2 * a - b).tdiv (2 * b) * 2 * b < 2 * a - b then (2 * a - b).tdiv (2 * b) + 1 else (2 * a - b).tdiv (2 * b)) := Lib.hid rfl
  clear h1 h2 h3 h6
  have hb0 : (2 * b == 0) = false := by simp; omega
  by_cases ht : (2 * a - b).tdiv (2 * b) * 2 * b < 2 * a - b
  · have HT := Lib.hid ht
    go_enter Try.func27, Try.ntmps27
    go_wp2
    go_ret
    rw [HN.out, if_pos HT.out]
    exact ⟨rfl, rfl⟩
  · have HT := Lib.hid ht
    go_enter Try.func27, Try.ntmps27
    go_wp2
    go_ret
    rw [HN.out, if_neg (Int.not_lt.2 HT.out)]
    exact ⟨rfl, rfl⟩
end Go.Proofs.Ytpacmghekfkidaa.Ga
