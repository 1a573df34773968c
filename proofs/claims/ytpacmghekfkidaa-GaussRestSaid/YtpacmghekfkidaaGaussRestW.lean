/-
  'GaussRest' walked.
-/
import Derived.Test.YtpacmghekfkidaaGauss8
namespace Go.Proofs.Ytpacmghekfkidaa.Ga
open Fl Go.RowKit Pl
set_option linter.unusedVariables false

theorem restP (v : Int) (w : World) (hv : -9223372036854775808 ≤ v) (hv2 : v ≤ 9223372036854775807) :
    Calls Try.prog 21 #[.int .i64 v] w fun e w' => e = .returned (.int .i64 (placeZ v 4001 - 2000)) ∧ w = w' := by
  have HP := Lib.hid (fun w => place_any v 4001 w (by omega) (by omega) hv hv2)
  obtain ⟨h1, h2⟩ := place_bd v 4001 (by omega)
  generalize placeZ v 4001 = p at *
  go_enter Try.func21, Try.ntmps21
  go_wp2_with fail
  refine (HP.out _).mono ?_
  rintro e w' ⟨rfl, rfl⟩
  go_wp2_with fail
  go_ret
  exact ⟨rfl, rfl⟩

set_option maxRecDepth 100000 in
set_option maxHeartbeats 1000000 in
theorem rest_walk (a b c d : Int) (w : World) (ha : -9223372036854775808 ≤ a) (ha' : a ≤ 9223372036854775807) (hb : -9223372036854775808 ≤ b) (hb' : b ≤ 9223372036854775807) (hc : -9223372036854775808 ≤ c) (hc' : c ≤ 9223372036854775807) (hd : -9223372036854775808 ≤ d) (hd' : d ≤ 9223372036854775807) :
    Calls Try.prog 6 #[.int .i64 a, .int .i64 b, .int .i64 c, .int .i64 d] w fun e w' => e = .returned (.bool true) ∧ Below w.heap.size w w' := by
  have Pa := Lib.hid (fun w => restP a w ha ha')
  have la : -2000 ≤ placeZ a 4001 - 2000 ∧ placeZ a 4001 - 2000 ≤ 2000 := by have := place_bd a 4001 (by omega); omega
  generalize placeZ a 4001 - 2000 = na at *
  have Pb := Lib.hid (fun w => restP b w hb hb')
  have lb : -2000 ≤ placeZ b 4001 - 2000 ∧ placeZ b 4001 - 2000 ≤ 2000 := by have := place_bd b 4001 (by omega); omega
  generalize placeZ b 4001 - 2000 = nb at *
  have Pc := Lib.hid (fun w => restP c w hc hc')
  have lc : -2000 ≤ placeZ c 4001 - 2000 ∧ placeZ c 4001 - 2000 ≤ 2000 := by have := place_bd c 4001 (by omega); omega
  generalize placeZ c 4001 - 2000 = nc at *
  have Pd := Lib.hid (fun w => restP d w hd hd')
  have ld : -2000 ≤ placeZ d 4001 - 2000 ∧ placeZ d 4001 - 2000 ≤ 2000 := by have := place_bd d 4001 (by omega); omega
  generalize placeZ d 4001 - 2000 = nd at *
  clear ha ha' hb hb' hc hc' hd hd'
  have ft : ∀ {x : Int}, -2000 ≤ x ∧ x ≤ 2000 → Ft x := fun h => by unfold Ft; omega
  have A1 := Lib.hid (make_to (ft la) (ft lb))
  have A2 := Lib.hid (make_to (ft lc) (ft ld))
  have E0 := e00
  by_cases hz : nc = 0 ∧ nd = 0
  · obtain ⟨rfl, rfl⟩ := hz
    rw [fz0] at A2
    have D1 := Lib.hid (div_zero (ft la) (ft lb))
    unfold cz at D1
    clear ft la lb lc ld
    generalize fz na = qa at *
    generalize fz nb = qb at *
    go_enter Try.func6, Try.ntmps6
    go_wp2_with fail
    refine (Pa.out _).mono ?_
    rintro e w' ⟨rfl, rfl⟩
    go_wp2_with fail
    refine (Pb.out _).mono ?_
    rintro e w' ⟨rfl, rfl⟩
    go_wp2_with fail
    refine (A1.out _).mono ?_
    rintro e w' ⟨rfl, rfl⟩
    go_wp2_with fail
    refine (Pc.out _).mono ?_
    rintro e w' ⟨rfl, rfl⟩
    go_wp2_with fail
    refine (Pd.out _).mono ?_
    rintro e w' ⟨rfl, rfl⟩
    go_wp2_with fail
    refine (A2.out _).mono ?_
    rintro e w' ⟨rfl, rfl⟩
    go_wp2_with fail
    refine (D1.out _).mono ?_
    rintro e w' ⟨rfl, rfl⟩
    go_wp2_with fail
    refine (awake_any _).mono ?_
    rintro e w' ⟨rfl, rfl⟩
    go_wp2_with fail
    go_ret
    exact ⟨rfl, Below.refl _ _⟩
  · have hn := norm_pos hz
    have hnz := neq_zero (ft lc).sm (ft ld).sm hz
    have D1 := Lib.hid (div_to (ft la) (ft lb) (ft lc) (ft ld) hn rfl rfl rfl rfl)
    have hq := q_fit (ft la) (ft lb) hn
    have hr := r_fit (a := na) (b := nb) (ft lc) (ft ld) hn
    have hrn := rest_norm na nb nc nd hn
    have k1 := sq_le (a := nc) (b := 2000) (by omega) (by omega)
    have k2 := sq_le (a := nd) (b := 2000) (by omega) (by omega)
    have g1 : norm nc nd ≤ 8000000 := by unfold norm; omega
    have hrp := part_le (a := rx na nb nc nd) (b := ry na nb nc nd) (B := 2000) (by omega) (by omega)
    have N1 := Lib.hid (norm_to (ft lc) (ft ld) rfl)
    have N2 := Lib.hid (norm_to hr.1 hr.2 rfl)
    have hx : qx na nb nc nd * nc - qy na nb nc nd * nd = na - rx na nb nc nd := by unfold rx; omega
    have hy : qx na nb nc nd * nd + qy na nb nc nd * nc = nb - ry na nb nc nd := by unfold ry; omega
    have M1 := Lib.hid (mul_to hq.1 hq.2 (ft lc) (ft ld) hx hy (by unfold Ft; omega) (by unfold Ft; omega))
    have S1 := Lib.hid (add_to (a := na - rx na nb nc nd) (b := nb - ry na nb nc nd) (by unfold Ft; omega) (by unfold Ft; omega) hr.1 hr.2 (X := na) (Y := nb) (by omega) (by omega) (ft la) (ft lb))
    have E1 := self_fz (ft la).sm
    have E2 := self_fz (ft lb).sm
    have h0 := norm_nn (rx na nb nc nd) (ry na nb nc nd)
    clear hx hy hrp k1 k2 hr hq ft la lb lc ld hz
    generalize fz (na - rx na nb nc nd) = q1 at *
    generalize fz (nb - ry na nb nc nd) = q2 at *
    generalize norm (rx na nb nc nd) (ry na nb nc nd) = m2 at *
    generalize fz (rx na nb nc nd) = q3 at *
    generalize fz (ry na nb nc nd) = q4 at *
    generalize fz (qx na nb nc nd) = q5 at *
    generalize fz (qy na nb nc nd) = q6 at *
    generalize norm nc nd = m1 at *
    generalize fz na = qa at *
    generalize fz nb = qb at *
    generalize fz nc = qc at *
    generalize fz nd = qd at *
    go_enter Try.func6, Try.ntmps6
    go_wp2_with fail
    refine (Pa.out _).mono ?_
    rintro e w' ⟨rfl, rfl⟩
    go_wp2_with fail
    refine (Pb.out _).mono ?_
    rintro e w' ⟨rfl, rfl⟩
    go_wp2_with fail
    refine (A1.out _).mono ?_
    rintro e w' ⟨rfl, rfl⟩
    go_wp2_with fail
    refine (Pc.out _).mono ?_
    rintro e w' ⟨rfl, rfl⟩
    go_wp2_with fail
    refine (Pd.out _).mono ?_
    rintro e w' ⟨rfl, rfl⟩
    go_wp2_with fail
    refine (A2.out _).mono ?_
    rintro e w' ⟨rfl, rfl⟩
    go_wp2_with fail
    refine (D1.out _).mono ?_
    rintro e w' ⟨rfl, rfl⟩
    go_wp2_with fail
    refine (N1.out _).mono ?_
    rintro e w' ⟨rfl, rfl⟩
    go_wp2_with fail
    refine (N2.out _).mono ?_
    rintro e w' ⟨rfl, rfl⟩
    go_wp2_with fail
    refine (M1.out _).mono ?_
    rintro e w' ⟨rfl, rfl⟩
    go_wp2_with fail
    refine (S1.out _).mono ?_
    rintro e w' ⟨rfl, rfl⟩
    go_wp2_with fail
    refine (awake_any _).mono ?_
    rintro e w' ⟨rfl, rfl⟩
    go_wp2_with fail
    go_ret
    exact ⟨rfl, Below.refl _ _⟩
end Go.Proofs.Ytpacmghekfkidaa.Ga
