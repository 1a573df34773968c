/-
  'GaussNorms' walked.
-/
import Derived.Test.YtpacmghekfkidaaGauss8
namespace Go.Proofs.Ytpacmghekfkidaa.Ga
open Fl Go.RowKit Pl
set_option linter.unusedVariables false

theorem normsP (v : Int) (w : World) (hv : -9223372036854775808 ≤ v) (hv2 : v ≤ 9223372036854775807) :
    Calls Try.prog 23 #[.int .i64 v] w fun e w' => e = .returned (.int .i64 (placeZ v 4001 - 2000)) ∧ w = w' := by
  have HP := Lib.hid (fun w => place_any v 4001 w (by omega) (by omega) hv hv2)
  obtain ⟨h1, h2⟩ := place_bd v 4001 (by omega)
  generalize placeZ v 4001 = p at *
  go_enter Try.func23, Try.ntmps23
  go_wp2_with fail
  refine (HP.out _).mono ?_
  rintro e w' ⟨rfl, rfl⟩
  go_wp2_with fail
  go_ret
  exact ⟨rfl, rfl⟩

set_option maxRecDepth 100000 in
set_option maxHeartbeats 1000000 in
theorem norms_walk (a b c d : Int) (w : World) (ha : -9223372036854775808 ≤ a) (ha' : a ≤ 9223372036854775807) (hb : -9223372036854775808 ≤ b) (hb' : b ≤ 9223372036854775807) (hc : -9223372036854775808 ≤ c) (hc' : c ≤ 9223372036854775807) (hd : -9223372036854775808 ≤ d) (hd' : d ≤ 9223372036854775807) :
    Calls Try.prog 8 #[.int .i64 a, .int .i64 b, .int .i64 c, .int .i64 d] w fun e w' => e = .returned (.bool true) ∧ Below w.heap.size w w' := by
  have Pa := Lib.hid (fun w => normsP a w ha ha')
  have la : -2000 ≤ placeZ a 4001 - 2000 ∧ placeZ a 4001 - 2000 ≤ 2000 := by have := place_bd a 4001 (by omega); omega
  generalize placeZ a 4001 - 2000 = na at *
  have Pb := Lib.hid (fun w => normsP b w hb hb')
  have lb : -2000 ≤ placeZ b 4001 - 2000 ∧ placeZ b 4001 - 2000 ≤ 2000 := by have := place_bd b 4001 (by omega); omega
  generalize placeZ b 4001 - 2000 = nb at *
  have Pc := Lib.hid (fun w => normsP c w hc hc')
  have lc : -2000 ≤ placeZ c 4001 - 2000 ∧ placeZ c 4001 - 2000 ≤ 2000 := by have := place_bd c 4001 (by omega); omega
  generalize placeZ c 4001 - 2000 = nc at *
  have Pd := Lib.hid (fun w => normsP d w hd hd')
  have ld : -2000 ≤ placeZ d 4001 - 2000 ∧ placeZ d 4001 - 2000 ≤ 2000 := by have := place_bd d 4001 (by omega); omega
  generalize placeZ d 4001 - 2000 = nd at *
  clear ha ha' hb hb' hc hc' hd hd'
  have ft : ∀ {x : Int}, -2000 ≤ x ∧ x ≤ 2000 → Ft x := fun h => by unfold Ft; omega
  have ft2 : ∀ {x : Int}, -(2 * (2000 * 2000)) ≤ x ∧ x ≤ 2 * (2000 * 2000) → Ft x := fun h => by unfold Ft; omega
  have bzw := mul2_bd la lb lc ld
  have k1 := sq_le (a := na) (b := 2000) (by omega) (by omega)
  have k2 := sq_le (a := nb) (b := 2000) (by omega) (by omega)
  have g1 : 0 ≤ norm na nb ∧ norm na nb ≤ 8000000 := ⟨norm_nn _ _, by unfold norm; omega⟩
  have A1 := Lib.hid (make_to (ft la) (ft lb))
  have A2 := Lib.hid (make_to (ft lc) (ft ld))
  have C1 := Lib.hid (conj_to (ft la) (ft lb) rfl)
  have C2 := Lib.hid (conj_to (ft lc) (ft ld) rfl)
  have M1 := Lib.hid (mul_to (ft la) (ft lb) (ft la) (ft lb).neg (X := norm na nb) (Y := 0) (by unfold norm; grind) (by grind) (by unfold Ft; omega) (by unfold Ft; omega))
  rw [fz0] at M1
  have N1 := Lib.hid (norm_to (ft la) (ft lb) rfl)
  have M2 := Lib.hid (mul_to (ft la) (ft lb) (ft lc) (ft ld) rfl rfl (ft2 bzw.1) (ft2 bzw.2))
  have C3 := Lib.hid (conj_to (ft2 bzw.1) (ft2 bzw.2) rfl)
  have M3 := Lib.hid (mul_to (ft la) (ft lb).neg (ft lc) (ft ld).neg (X := na * nc - nb * nd) (Y := -(na * nd + nb * nc)) (by grind) (by grind) (ft2 bzw.1) (ft2 bzw.2).neg)
  have E1 := self_fz (ft2 bzw.1).sm
  have E2 := self_fz (ft2 bzw.2).neg.sm
  have E3 : (FloatKind.f64.format.order (fz (norm na nb)) (floatOfInt .f64 (norm na nb)) == some .eq) = true := self_fz (a := norm na nb) (by unfold Sm; omega)
  have E0 := e00
  obtain ⟨g1, g2⟩ := g1
  generalize norm na nb = m1 at *
  clear k1 k2 bzw ft ft2 la lb lc ld
  generalize fz (-(na * nd + nb * nc)) = q1 at *
  generalize fz (na * nd + nb * nc) = q2 at *
  generalize fz (na * nc - nb * nd) = q3 at *
  generalize fz (-nb) = q4 at *
  generalize fz (-nd) = q5 at *
  generalize fz m1 = q6 at *
  generalize fz na = qa at *
  generalize fz nb = qb at *
  generalize fz nc = qc at *
  generalize fz nd = qd at *
  go_enter Try.func8, Try.ntmps8
  go_wp2_with fail
  refine (Pa.out _).mono ?_
  rintro e w' ⟨rfl, rfl⟩
  go_wp2_with fail
  refine (Pb.out _).mono ?_
  rintro e w' ⟨rfl, rfl⟩
  go_wp2_with fail
  refine (A1.out _).mono ?_
  rintro e w' ⟨rfl, rfl⟩
  go_wp2_with fail
  refine (Pc.out _).mono ?_
  rintro e w' ⟨rfl, rfl⟩
  go_wp2_with fail
  refine (Pd.out _).mono ?_
  rintro e w' ⟨rfl, rfl⟩
  go_wp2_with fail
  refine (A2.out _).mono ?_
  rintro e w' ⟨rfl, rfl⟩
  go_wp2_with fail
  refine (C1.out _).mono ?_
  rintro e w' ⟨rfl, rfl⟩
  go_wp2_with fail
  refine (C2.out _).mono ?_
  rintro e w' ⟨rfl, rfl⟩
  go_wp2_with fail
  refine (M1.out _).mono ?_
  rintro e w' ⟨rfl, rfl⟩
  go_wp2_with fail
  refine (N1.out _).mono ?_
  rintro e w' ⟨rfl, rfl⟩
  go_wp2_with fail
  refine (M2.out _).mono ?_
  rintro e w' ⟨rfl, rfl⟩
  go_wp2_with fail
  refine (C3.out _).mono ?_
  rintro e w' ⟨rfl, rfl⟩
  go_wp2_with fail
  refine (M3.out _).mono ?_
  rintro e w' ⟨rfl, rfl⟩
  go_wp2_with fail
  refine (awake_any _).mono ?_
  rintro e w' ⟨rfl, rfl⟩
  go_wp2_with fail
  go_ret
  exact ⟨rfl, Below.refl _ _⟩
end Go.Proofs.Ytpacmghekfkidaa.Ga
