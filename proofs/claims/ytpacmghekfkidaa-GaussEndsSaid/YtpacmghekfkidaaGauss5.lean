/-
  gauss: Div, Turn.
-/
import Derived.Test.YtpacmghekfkidaaGauss4
import Derived.LoopTactic
namespace Go.Proofs.Ytpacmghekfkidaa.Ga
open Fl Go.RowKit
set_option linter.unusedVariables false

instance (a : Int) : Decidable (Ft a) := by unfold Ft; infer_instance
set_option maxRecDepth 100000 in
theorem div_yes {a b c d : Int} (ha : Ft a) (hb : Ft b) (hc : Ft c) (hd : Ft d) (hn : 0 < norm c d) (w : World) :
    Calls Try.prog 15 #[cz a b, cz c d] w fun e w' => e = .returned (.tuple #[cz (qx a b c d) (qy a b c d), cz (rx a b c d) (ry a b c d), .bool true]) ∧ w = w' := by
  obtain ⟨b1, b1'⟩ := prod_bd ha hc
  obtain ⟨b2, b2'⟩ := prod_bd hb hd
  obtain ⟨b3, b3'⟩ := prod_bd hb hc
  obtain ⟨b4, b4'⟩ := prod_bd ha hd
  obtain ⟨b5, b5'⟩ := prod_bd hc hc
  obtain ⟨b6, b6'⟩ := prod_bd hd hd
  have hqf := q_fit ha hb hn
  have hrf := r_fit (a := a) (b := b) hc hd hn
  obtain ⟨b7, b7'⟩ := prod_bd hqf.1 hc
  obtain ⟨b8, b8'⟩ := prod_bd hqf.2 hd
  obtain ⟨b9, b9'⟩ := prod_bd hqf.1 hd
  obtain ⟨b10, b10'⟩ := prod_bd hqf.2 hc
  have hn' : 1 ≤ c * c + d * d := hn
  have HX : Hid (∀ w, Calls Try.prog 27 #[.int .i64 (a * c + b * d), .int .i64 (c * c + d * d)] w fun e w' => e = .returned (.int .i64 (qx a b c d)) ∧ w = w') :=
    Lib.hid fun w => near_any (by omega) (by omega) hn' (by omega) w
  have HY : Hid (∀ w, Calls Try.prog 27 #[.int .i64 (b * c - a * d), .int .i64 (c * c + d * d)] w fun e w' => e = .returned (.int .i64 (qy a b c d)) ∧ w = w') :=
    Lib.hid fun w => near_any (by omega) (by omega) hn' (by omega) w
  have HQ := Lib.hid (fun w => make_yes hqf.1 hqf.2 w)
  have HR := Lib.hid (fun w => make_yes hrf.1 hrf.2 w)
  have H1 := Lib.hid (fun w => parts_any ha hb w)
  have H2 := Lib.hid (fun w => parts_any hc hd w)
  have ha' := ha.1
  have ha'' := ha.2
  have hb' := hb.1
  have hb'' := hb.2
  have h0 : (c * c + d * d == 0) = false := by
    have : norm c d = c * c + d * d := rfl
    simp
    omega
  unfold cz at H1 H2 HR HQ ⊢
  unfold rx ry at HR ⊢
  clear ha hb hc hd hn hn' hqf hrf
  generalize qx a b c d = x at *
  generalize qy a b c d = y at *
  go_enter Try.func15, Try.ntmps15
  go_wp2_with fail
  refine (H1.out _).mono ?_
  rintro e w' ⟨rfl, rfl⟩
  go_wp2_with fail
  refine (H2.out _).mono ?_
  rintro e w' ⟨rfl, rfl⟩
  go_wp2_with fail
  refine (HX.out _).mono ?_
  rintro e w' ⟨rfl, rfl⟩
  go_wp2_with fail
  refine (HY.out _).mono ?_
  rintro e w' ⟨rfl, rfl⟩
  go_wp2_with fail
  refine (HQ.out _).mono ?_
  rintro e w' ⟨rfl, rfl⟩
  go_wp2_with fail
  refine (HR.out _).mono ?_
  rintro e w' ⟨rfl, rfl⟩
  go_wp2_with fail
  go_ret3
  exact ⟨rfl, rfl⟩
set_option maxRecDepth 100000 in
theorem div_zero {a b : Int} (ha : Ft a) (hb : Ft b) (w : World) :
    Calls Try.prog 15 #[cz a b, .complex .f64 0 0] w fun e w' => e = .returned (.tuple #[.complex .f64 0 0, .complex .f64 0 0, .bool false]) ∧ w = w' := by
  have H1 := Lib.hid (fun w => parts_any ha hb w)
  have H2 := Lib.hid (fun w => parts_any (a := 0) (b := 0) (by decide) (by decide) w)
  rw [cz00] at H2
  unfold cz at H1 ⊢
  clear ha hb
  go_enter Try.func15, Try.ntmps15
  go_wp2_with fail
  refine (H1.out _).mono ?_
  rintro e w' ⟨rfl, rfl⟩
  go_wp2_with fail
  refine (H2.out _).mono ?_
  rintro e w' ⟨rfl, rfl⟩
  go_wp2_with fail
  go_ret3
  exact ⟨rfl, rfl⟩
/-- turned so many times -/
def turnN : Nat → Int → Int → Int × Int
  | 0, a, b => (a, b)
  | n + 1, a, b => (-(turnN n a b).2, (turnN n a b).1)
theorem turnN_fit {a b : Int} (ha : Ft a) (hb : Ft b) : ∀ n, Fits (turnN n a b).1 (turnN n a b).2
  | 0 => ⟨ha, hb⟩
  | n + 1 => ⟨(turnN_fit ha hb n).2.neg, (turnN_fit ha hb n).1⟩
theorem i64_and3 (n : Int) : bits .and .i64 n 3 = n % 4 := by
  have h3 : (BitVec.ofInt 64 3).toNat = 2 ^ 2 - 1 := by decide
  have key : (BitVec.ofInt 64 n &&& BitVec.ofInt 64 3).toNat = (n % ((2 ^ 64 : Nat) : Int)).toNat % 2 ^ 2 := by
    rw [BitVec.toNat_and, BitVec.toNat_ofInt, h3, Nat.and_two_pow_sub_one_eq_mod]
  show IntKind.i64.wrap ((BitVec.ofInt 64 n &&& BitVec.ofInt 64 3).toNat : Nat) = n % 4
  rw [key, IntKind.wrap_i64]
  omega
def PairAt (k : Nat) (a b : Int) (z : Value) : Prop := ∃ x y s t, z = .complex .f64 x y ∧ Rep x s (turnN k a b).1 ∧ Rep y t (turnN k a b).2
theorem turn_any {a b : Int} (ha : Ft a) (hb : Ft b) (n : Int) (w : World) :
    Calls Try.prog 17 #[cz a b, .int .i64 n] w fun e w' => e = .returned (.tuple #[cz (turnN (n % 4).toNat a b).1 (turnN (n % 4).toNat a b).2, .bool true]) ∧ w = w' := by
  have H1 := Lib.hid (fun w => is_yes ha hb w)
  have HF := Lib.hid (turnN_fit ha hb)
  have h0 : PairAt 0 a b (cz a b) := ⟨fz a, fz b, _, _, rfl, rep_fz ha.sm, rep_fz hb.sm⟩
  have hn : ∀ b, Op.unary .neg (.float .f64 b) = pure (.float .f64 (Op.negFloat .f64 b)) := fun _ => rfl
  have hb3 := i64_and3 n
  obtain ⟨m, hm, hm4⟩ : ∃ m : Nat, n % 4 = (m : Int) ∧ m < 4 := ⟨(n % 4).toNat, by omega, by omega⟩
  rw [hm] at hb3 ⊢
  rw [Int.toNat_natCast]
  clear hm ha hb
  generalize cz a b = z at *
  have H0 := Lib.hid h0
  clear h0
  go_enter Try.func17, Try.ntmps17
  go_wp2_with fail
  refine (H1.out _).mono ?_
  rintro e w' ⟨rfl, rfl⟩
  go_wp2_with fail
  go_loop [0, 11] (fun z i => ∃ k : Nat, k ≤ m ∧ i = .int .i64 (k : Int) ∧ PairAt k a b z) (fun _ i => m - (intOf i).toNat)
  case atStart => exact ⟨0, by omega, rfl, H0.out⟩
  case round =>
    obtain ⟨k, hk, rfl, x, y, s, t, rfl, hx, hy⟩ := hrel
    have HX := Lib.hid hx
    have HY := Lib.hid hy
    clear hx hy
    by_cases hlt : k < m
    · have hltI : (k : Int) < (m : Int) := by omega
      go_wp2
      go_round
      case rel => exact ⟨k + 1, by omega, by go_num, _, _, _, _, rfl, neg_of HY.out (HF.out k).2.sm, HX.out⟩
      case measure => simp [intOf]; omega
    · have hge : (m : Int) ≤ (k : Int) := by omega
      obtain rfl : k = m := by omega
      have HP := Lib.hid (fun w => plain_any HX.out HY.out (HF.out k).1.sm (HF.out k).2.sm w)
      rw [fitV_yes (HF.out k)] at HP
      go_wp2_with fail
      refine (HP.out _).mono ?_
      rintro e w' ⟨rfl, rfl⟩
      go_wp2_with fail
      go_ret2
      exact ⟨rfl, rfl⟩
end Go.Proofs.Ytpacmghekfkidaa.Ga
