/-
  'GaussRing' walked.
-/
import Derived.Test.YtpacmghekfkidaaGauss7
namespace Go.Proofs.Ytpacmghekfkidaa.Ga
open Fl Go.RowKit Pl
set_option linter.unusedVariables false


theorem ringP (v : Int) (w : World) (hv : -9223372036854775808 ≤ v) (hv2 : v ≤ 9223372036854775807) :
    Calls Try.prog 19 #[.int .i64 v] w fun e w' => e = .returned (.float .f64 (fz (placeZ v 201 - 100))) ∧ w = w' := by
  have HP := Lib.hid (fun w => place_any v 201 w (by omega) (by omega) hv hv2)
  obtain ⟨h1, h2⟩ := place_bd v 201 (by omega)
  generalize placeZ v 201 = p at *
  go_enter Try.func19, Try.ntmps19
  go_wp2_with fail
  refine (HP.out _).mono ?_
  rintro e w' ⟨rfl, rfl⟩
  go_wp2_with fail
  go_ret
  exact ⟨rfl, rfl⟩

set_option maxRecDepth 100000 in
set_option maxHeartbeats 1000000 in
theorem ring_walk (a b c d e f : Int) (w : World) (ha : -9223372036854775808 ≤ a) (ha' : a ≤ 9223372036854775807) (hb : -9223372036854775808 ≤ b) (hb' : b ≤ 9223372036854775807) (hc : -9223372036854775808 ≤ c) (hc' : c ≤ 9223372036854775807) (hd : -9223372036854775808 ≤ d) (hd' : d ≤ 9223372036854775807) (he : -9223372036854775808 ≤ e) (he' : e ≤ 9223372036854775807) (hf : -9223372036854775808 ≤ f) (hf' : f ≤ 9223372036854775807) :
    Calls Try.prog 5 #[.int .i64 a, .int .i64 b, .int .i64 c, .int .i64 d, .int .i64 e, .int .i64 f] w fun e w' => e = .returned (.bool true) ∧ Below w.heap.size w w' := by
  have Pa := Lib.hid (fun w => ringP a w ha ha')
  have la : -100 ≤ placeZ a 201 - 100 ∧ placeZ a 201 - 100 ≤ 100 := by have := place_bd a 201 (by omega); omega
  generalize placeZ a 201 - 100 = na at *
  have Pb := Lib.hid (fun w => ringP b w hb hb')
  have lb : -100 ≤ placeZ b 201 - 100 ∧ placeZ b 201 - 100 ≤ 100 := by have := place_bd b 201 (by omega); omega
  generalize placeZ b 201 - 100 = nb at *
  have Pc := Lib.hid (fun w => ringP c w hc hc')
  have lc : -100 ≤ placeZ c 201 - 100 ∧ placeZ c 201 - 100 ≤ 100 := by have := place_bd c 201 (by omega); omega
  generalize placeZ c 201 - 100 = nc at *
  have Pd := Lib.hid (fun w => ringP d w hd hd')
  have ld : -100 ≤ placeZ d 201 - 100 ∧ placeZ d 201 - 100 ≤ 100 := by have := place_bd d 201 (by omega); omega
  generalize placeZ d 201 - 100 = nd at *
  have Pe := Lib.hid (fun w => ringP e w he he')
  have le : -100 ≤ placeZ e 201 - 100 ∧ placeZ e 201 - 100 ≤ 100 := by have := place_bd e 201 (by omega); omega
  generalize placeZ e 201 - 100 = ne at *
  have Pf := Lib.hid (fun w => ringP f w hf hf')
  have lf : -100 ≤ placeZ f 201 - 100 ∧ placeZ f 201 - 100 ≤ 100 := by have := place_bd f 201 (by omega); omega
  generalize placeZ f 201 - 100 = nf at *
  clear ha ha' hb hb' hc hc' hd hd' he he' hf hf'
  have ft : ∀ {x : Int}, -100 ≤ x ∧ x ≤ 100 → Ft x := fun h => by unfold Ft; omega
  have ft2 : ∀ {x : Int}, -(2 * (100 * 100)) ≤ x ∧ x ≤ 2 * (100 * 100) → Ft x := fun h => by unfold Ft; omega
  have ft3 : ∀ {x : Int}, -(2 * (20000 * 100)) ≤ x ∧ x ≤ 2 * (20000 * 100) → Ft x := fun h => by unfold Ft; omega
  have ft4 : ∀ {x : Int}, -(2 * (100 * 20000)) ≤ x ∧ x ≤ 2 * (100 * 20000) → Ft x := fun h => by unfold Ft; omega
  have bxy := mul2_bd la lb lc ld
  have byz := mul2_bd lc ld le lf
  have bxz := mul2_bd la lb le lf
  have bl := mul2_bd (A := 20000) (by omega) (by omega) le lf (a := na * nc - nb * nd) (b := na * nd + nb * nc)
  have bs1 : -200 ≤ nc + ne ∧ nc + ne ≤ 200 := by omega
  have bs2 : -200 ≤ nd + nf ∧ nd + nf ≤ 200 := by omega
  have bt := mul2_bd la lb bs1 bs2
  have M1 := Lib.hid (mul_to (ft la) (ft lb) (ft lc) (ft ld) rfl rfl (ft2 bxy.1) (ft2 bxy.2))
  have M2 := Lib.hid (mul_to (ft lc) (ft ld) (ft la) (ft lb) (X := na * nc - nb * nd) (Y := na * nd + nb * nc) (by grind) (by grind) (ft2 bxy.1) (ft2 bxy.2))
  have M3 := Lib.hid (mul_to (ft lc) (ft ld) (ft le) (ft lf) rfl rfl (ft2 byz.1) (ft2 byz.2))
  have M4 := Lib.hid (mul_to (ft2 bxy.1) (ft2 bxy.2) (ft le) (ft lf) rfl rfl (ft3 bl.1) (ft3 bl.2))
  have M5 := Lib.hid (mul_to (ft la) (ft lb) (ft2 byz.1) (ft2 byz.2) (X := (na * nc - nb * nd) * ne - (na * nd + nb * nc) * nf) (Y := (na * nc - nb * nd) * nf + (na * nd + nb * nc) * ne) (by grind) (by grind) (ft3 bl.1) (ft3 bl.2))
  have M6 := Lib.hid (add_to (ft lc) (ft ld) (ft le) (ft lf) rfl rfl (by unfold Ft; omega) (by unfold Ft; omega))
  have M7 := Lib.hid (mul_to (ft la) (ft lb) (c := nc + ne) (d := nd + nf) (by unfold Ft; omega) (by unfold Ft; omega) rfl rfl (by unfold Ft; omega) (by unfold Ft; omega))
  have M8 := Lib.hid (mul_to (ft la) (ft lb) (ft le) (ft lf) rfl rfl (ft2 bxz.1) (ft2 bxz.2))
  have M9 := Lib.hid (add_to (ft2 bxy.1) (ft2 bxy.2) (ft2 bxz.1) (ft2 bxz.2) (X := na * (nc + ne) - nb * (nd + nf)) (Y := na * (nd + nf) + nb * (nc + ne)) (by grind) (by grind) (by unfold Ft; omega) (by unfold Ft; omega))
  have N1 := Lib.hid (norm_to (ft la) (ft lb) rfl)
  have N2 := Lib.hid (norm_to (ft lc) (ft ld) rfl)
  have N3 := Lib.hid (norm_to (ft2 bxy.1) (ft2 bxy.2) (n := norm na nb * norm nc nd) (by unfold norm; grind))
  have E1 := self_fz (ft2 bxy.1).sm
  have E2 := self_fz (ft2 bxy.2).sm
  have E3 := self_fz (ft3 bl.1).sm
  have E4 := self_fz (ft3 bl.2).sm
  have E5 := self_fz (a := na * (nc + ne) - nb * (nd + nf)) (by unfold Sm; omega)
  have E6 := self_fz (a := na * (nd + nf) + nb * (nc + ne)) (by unfold Sm; omega)
  have k1 := sq_le (a := na) (b := 100) (by omega) (by omega)
  have k2 := sq_le (a := nb) (b := 100) (by omega) (by omega)
  have k3 := sq_le (a := nc) (b := 100) (by omega) (by omega)
  have k4 := sq_le (a := nd) (b := 100) (by omega) (by omega)
  have g1 : 0 ≤ norm na nb ∧ norm na nb ≤ 20000 := ⟨norm_nn _ _, by unfold norm; omega⟩
  have g2 : 0 ≤ norm nc nd ∧ norm nc nd ≤ 20000 := ⟨norm_nn _ _, by unfold norm; omega⟩
  have g3 := mul_bd (a := norm na nb) (b := norm nc nd) (A := 20000) (B := 20000) (by omega) (by omega) (by omega) (by omega)
  obtain ⟨g3, g4⟩ := g3
  generalize norm na nb = m1 at *
  generalize norm nc nd = m2 at *
  have E7 : (m1 * m2 == m1 * m2) = true := by simp
  clear k1 k2 k3 k4 g1 g2 bxy byz bxz bl bt bs1 bs2 ft ft2 ft3 ft4 la lb lc ld le lf
  generalize fz (na * (nc + ne) - nb * (nd + nf)) = q1 at *
  generalize fz (na * (nd + nf) + nb * (nc + ne)) = q2 at *
  generalize fz ((na * nc - nb * nd) * ne - (na * nd + nb * nc) * nf) = q3 at *
  generalize fz ((na * nc - nb * nd) * nf + (na * nd + nb * nc) * ne) = q4 at *
  generalize fz (na * nc - nb * nd) = q5 at *
  generalize fz (na * nd + nb * nc) = q6 at *
  generalize fz (nc * ne - nd * nf) = q7 at *
  generalize fz (nc * nf + nd * ne) = q8 at *
  generalize fz (na * ne - nb * nf) = q9 at *
  generalize fz (na * nf + nb * ne) = q10 at *
  generalize fz (nc + ne) = q11 at *
  generalize fz (nd + nf) = q12 at *
  generalize fz na = qa at *
  generalize fz nb = qb at *
  generalize fz nc = qc at *
  generalize fz nd = qd at *
  generalize fz ne = qe at *
  generalize fz nf = qf at *
  go_enter Try.func5, Try.ntmps5
  go_wp2_with fail
  refine (Pa.out _).mono ?_
  rintro e w' ⟨rfl, rfl⟩
  go_wp2_with fail
  refine (Pb.out _).mono ?_
  rintro e w' ⟨rfl, rfl⟩
  go_wp2_with fail
  refine (Pc.out _).mono ?_
  rintro e w' ⟨rfl, rfl⟩
  go_wp2_with fail
  refine (Pd.out _).mono ?_
  rintro e w' ⟨rfl, rfl⟩
  go_wp2_with fail
  refine (Pe.out _).mono ?_
  rintro e w' ⟨rfl, rfl⟩
  go_wp2_with fail
  refine (Pf.out _).mono ?_
  rintro e w' ⟨rfl, rfl⟩
  go_wp2_with fail
  refine (M1.out _).mono ?_
  rintro e w' ⟨rfl, rfl⟩
  go_wp2_with fail
  refine (M2.out _).mono ?_
  rintro e w' ⟨rfl, rfl⟩
  go_wp2_with fail
  refine (M3.out _).mono ?_
  rintro e w' ⟨rfl, rfl⟩
  go_wp2_with fail
  refine (M4.out _).mono ?_
  rintro e w' ⟨rfl, rfl⟩
  go_wp2_with fail
  refine (M5.out _).mono ?_
  rintro e w' ⟨rfl, rfl⟩
  go_wp2_with fail
  refine (M6.out _).mono ?_
  rintro e w' ⟨rfl, rfl⟩
  go_wp2_with fail
  refine (M7.out _).mono ?_
  rintro e w' ⟨rfl, rfl⟩
  go_wp2_with fail
  refine (M8.out _).mono ?_
  rintro e w' ⟨rfl, rfl⟩
  go_wp2_with fail
  refine (M9.out _).mono ?_
  rintro e w' ⟨rfl, rfl⟩
  go_wp2_with fail
  refine (N1.out _).mono ?_
  rintro e w' ⟨rfl, rfl⟩
  go_wp2_with fail
  refine (N2.out _).mono ?_
  rintro e w' ⟨rfl, rfl⟩
  go_wp2_with fail
  refine (N3.out _).mono ?_
  rintro e w' ⟨rfl, rfl⟩
  go_wp2_with fail
  refine (awake_any _).mono ?_
  rintro e w' ⟨rfl, rfl⟩
  go_wp2_with fail
  go_ret
  exact ⟨rfl, Below.refl _ _⟩
end Go.Proofs.Ytpacmghekfkidaa.Ga
