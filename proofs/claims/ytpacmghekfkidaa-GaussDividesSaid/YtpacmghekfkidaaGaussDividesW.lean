/-
  'GaussDivides' walked.
-/
import Derived.Test.YtpacmghekfkidaaGauss8
namespace Go.Proofs.Ytpacmghekfkidaa.Ga
open Fl Go.RowKit Pl
set_option linter.unusedVariables false

theorem dividesP (v : Int) (w : World) (hv : -9223372036854775808 ≤ v) (hv2 : v ≤ 9223372036854775807) :
    Calls Try.prog 10 #[.int .i64 v] w fun e w' => e = .returned (.float .f64 (fz (placeZ v 41 - 20))) ∧ w = w' := by
  have HP := Lib.hid (fun w => place_any v 41 w (by omega) (by omega) hv hv2)
  obtain ⟨h1, h2⟩ := place_bd v 41 (by omega)
  generalize placeZ v 41 = p at *
  go_enter Try.func10, Try.ntmps10
  go_wp2_with fail
  refine (HP.out _).mono ?_
  rintro e w' ⟨rfl, rfl⟩
  go_wp2_with fail
  go_ret
  exact ⟨rfl, rfl⟩

set_option maxRecDepth 100000 in
set_option maxHeartbeats 1000000 in
theorem divides_walk (a b c d e f : Int) (w : World) (ha : -9223372036854775808 ≤ a) (ha' : a ≤ 9223372036854775807) (hb : -9223372036854775808 ≤ b) (hb' : b ≤ 9223372036854775807) (hc : -9223372036854775808 ≤ c) (hc' : c ≤ 9223372036854775807) (hd : -9223372036854775808 ≤ d) (hd' : d ≤ 9223372036854775807) (he : -9223372036854775808 ≤ e) (he' : e ≤ 9223372036854775807) (hf : -9223372036854775808 ≤ f) (hf' : f ≤ 9223372036854775807) :
    Calls Try.prog 3 #[.int .i64 a, .int .i64 b, .int .i64 c, .int .i64 d, .int .i64 e, .int .i64 f] w fun e w' => e = .returned (.bool true) ∧ Below w.heap.size w w' := by
  have Pa := Lib.hid (fun w => dividesP a w ha ha')
  have la : -20 ≤ placeZ a 41 - 20 ∧ placeZ a 41 - 20 ≤ 20 := by have := place_bd a 41 (by omega); omega
  generalize placeZ a 41 - 20 = na at *
  have Pb := Lib.hid (fun w => dividesP b w hb hb')
  have lb : -20 ≤ placeZ b 41 - 20 ∧ placeZ b 41 - 20 ≤ 20 := by have := place_bd b 41 (by omega); omega
  generalize placeZ b 41 - 20 = nb at *
  have Pc := Lib.hid (fun w => dividesP c w hc hc')
  have lc : -20 ≤ placeZ c 41 - 20 ∧ placeZ c 41 - 20 ≤ 20 := by have := place_bd c 41 (by omega); omega
  generalize placeZ c 41 - 20 = nc at *
  have Pd := Lib.hid (fun w => dividesP d w hd hd')
  have ld : -20 ≤ placeZ d 41 - 20 ∧ placeZ d 41 - 20 ≤ 20 := by have := place_bd d 41 (by omega); omega
  generalize placeZ d 41 - 20 = nd at *
  have Pe := Lib.hid (fun w => dividesP e w he he')
  have le : -20 ≤ placeZ e 41 - 20 ∧ placeZ e 41 - 20 ≤ 20 := by have := place_bd e 41 (by omega); omega
  generalize placeZ e 41 - 20 = ne at *
  have Pf := Lib.hid (fun w => dividesP f w hf hf')
  have lf : -20 ≤ placeZ f 41 - 20 ∧ placeZ f 41 - 20 ≤ 20 := by have := place_bd f 41 (by omega); omega
  generalize placeZ f 41 - 20 = nf at *
  clear ha ha' hb hb' hc hc' hd hd' he he' hf hf'
  have ft : ∀ {x : Int}, -20 ≤ x ∧ x ≤ 20 → Ft x := fun h => by unfold Ft; omega
  have ft2 : ∀ {x : Int}, -(2 * (20 * 20)) ≤ x ∧ x ≤ 2 * (20 * 20) → Ft x := fun h => by unfold Ft; omega
  have bx := mul2_bd la lb le lf
  have by' := mul2_bd lc ld le lf
  have M1 := Lib.hid (mul_to (ft la) (ft lb) (ft le) (ft lf) rfl rfl (ft2 bx.1) (ft2 bx.2))
  have M2 := Lib.hid (mul_to (ft lc) (ft ld) (ft le) (ft lf) rfl rfl (ft2 by'.1) (ft2 by'.2))
  have kx := Dv.mul na nb ne nf
  have ky := Dv.mul nc nd ne nf
  have fx1 := ft2 bx.1
  have fx2 := ft2 bx.2
  have fy1 := ft2 by'.1
  have fy2 := ft2 by'.2
  clear bx by'
  generalize na * ne - nb * nf = x1 at *
  generalize na * nf + nb * ne = x2 at *
  generalize nc * ne - nd * nf = y1 at *
  generalize nc * nf + nd * ne = y2 at *
  have G1 := Lib.hid (gcd_to fx1 fx2 fy1 fy2 rfl rfl)
  have gdv := gcd_dv x1 x2 y1 y2
  have dvg := quad_dv (dv_gcd ne nf x1 x2 y1 y2 kx ky)
  have gft := gcd_fit x1 x2 y1 y2 fx1 fx2 fy1 fy2
  have qft := quad_fit gft.1 gft.2
  have qdx := dv_quad gdv.1
  have qdy := dv_quad gdv.2
  have qf := quad_first (gcdE x1 x2 y1 y2).1 (gcdE x1 x2 y1 y2).2
  generalize (gcdE x1 x2 y1 y2).1 = g1 at *
  generalize (gcdE x1 x2 y1 y2).2 = g2 at *
  generalize (quad g1 g2).1 = h1 at *
  generalize (quad g1 g2).2 = h2 at *
  have E0 := e00
  rcases qf with ⟨rfl, rfl, rfl, rfl⟩ | ⟨hp1, hp2⟩
  · obtain ⟨rfl, rfl⟩ := dv_zero gdv.1
    obtain ⟨rfl, rfl⟩ := dv_zero gdv.2
    rw [fz0] at M1 M2 G1
    clear kx ky fx1 fx2 fy1 fy2 gdv dvg gft qft qdx qdy ft ft2 la lb lc ld le lf
    generalize fz na = qa at *
    generalize fz nb = qb at *
    generalize fz nc = qc at *
    generalize fz nd = qd at *
    generalize fz ne = qe at *
    generalize fz nf = qf at *
    go_enter Try.func3, Try.ntmps3
    go_wp2_with fail
    refine (Pe.out _).mono ?_
    rintro e w' ⟨rfl, rfl⟩
    go_wp2_with fail
    refine (Pf.out _).mono ?_
    rintro e w' ⟨rfl, rfl⟩
    go_wp2_with fail
    refine (Pa.out _).mono ?_
    rintro e w' ⟨rfl, rfl⟩
    go_wp2_with fail
    refine (Pb.out _).mono ?_
    rintro e w' ⟨rfl, rfl⟩
    go_wp2_with fail
    refine (M1.out _).mono ?_
    rintro e w' ⟨rfl, rfl⟩
    go_wp2_with fail
    refine (Pc.out _).mono ?_
    rintro e w' ⟨rfl, rfl⟩
    go_wp2_with fail
    refine (Pd.out _).mono ?_
    rintro e w' ⟨rfl, rfl⟩
    go_wp2_with fail
    refine (M2.out _).mono ?_
    rintro e w' ⟨rfl, rfl⟩
    go_wp2_with fail
    refine (G1.out _).mono ?_
    rintro e w' ⟨rfl, rfl⟩
    go_wp2_with fail
    refine (awake_any _).mono ?_
    rintro e w' ⟨rfl, rfl⟩
    go_wp2_with fail
    go_ret
    exact ⟨rfl, Below.refl _ _⟩
  · have hne : ¬ (h1 = 0 ∧ h2 = 0) := by omega
    have hnz := neq_zero qft.1.sm qft.2.sm hne
    have hnn := norm_pos hne
    have r1 := rest_dv hnn qdx
    have r2 := rest_dv hnn qdy
    have D1 := Lib.hid (div_to fx1 fx2 qft.1 qft.2 hnn rfl rfl r1.1 r1.2)
    have D2 := Lib.hid (div_to fy1 fy2 qft.1 qft.2 hnn rfl rfl r2.1 r2.2)
    rw [fz0] at D1 D2
    have E1 := gtr_zero qft.1.sm hp1
    have E2 := geq_zero qft.2.sm hp2
    have fe := ft le
    have ff := ft lf
    by_cases hk : ne = 0 ∧ nf = 0
    · obtain ⟨rfl, rfl⟩ := hk
      rw [fz0] at M1 M2 Pe Pf
      clear kx ky fx1 fx2 fy1 fy2 gdv dvg gft qft qdx qdy ft ft2 la lb lc ld le lf hp1 hp2 hne hnn r1 r2 fe ff
      generalize fz (qx x1 x2 h1 h2) = u1 at *
      generalize fz (qy x1 x2 h1 h2) = u2 at *
      generalize fz (qx y1 y2 h1 h2) = u3 at *
      generalize fz (qy y1 y2 h1 h2) = u4 at *
      generalize fz x1 = v1 at *
      generalize fz x2 = v2 at *
      generalize fz y1 = v3 at *
      generalize fz y2 = v4 at *
      generalize fz h1 = v5 at *
      generalize fz h2 = v6 at *
      generalize fz na = qa at *
      generalize fz nb = qb at *
      generalize fz nc = qc at *
      generalize fz nd = qd at *
      go_enter Try.func3, Try.ntmps3
      go_wp2_with fail
      refine (Pe.out _).mono ?_
      rintro e w' ⟨rfl, rfl⟩
      go_wp2_with fail
      refine (Pf.out _).mono ?_
      rintro e w' ⟨rfl, rfl⟩
      go_wp2_with fail
      refine (Pa.out _).mono ?_
      rintro e w' ⟨rfl, rfl⟩
      go_wp2_with fail
      refine (Pb.out _).mono ?_
      rintro e w' ⟨rfl, rfl⟩
      go_wp2_with fail
      refine (M1.out _).mono ?_
      rintro e w' ⟨rfl, rfl⟩
      go_wp2_with fail
      refine (Pc.out _).mono ?_
      rintro e w' ⟨rfl, rfl⟩
      go_wp2_with fail
      refine (Pd.out _).mono ?_
      rintro e w' ⟨rfl, rfl⟩
      go_wp2_with fail
      refine (M2.out _).mono ?_
      rintro e w' ⟨rfl, rfl⟩
      go_wp2_with fail
      refine (G1.out _).mono ?_
      rintro e w' ⟨rfl, rfl⟩
      go_wp2_with fail
      refine (D1.out _).mono ?_
      rintro e w' ⟨rfl, rfl⟩
      go_wp2_with fail
      refine (D2.out _).mono ?_
      rintro e w' ⟨rfl, rfl⟩
      go_wp2_with fail
      refine (awake_any _).mono ?_
      rintro e w' ⟨rfl, rfl⟩
      go_wp2_with fail
      go_ret
      exact ⟨rfl, Below.refl _ _⟩
    · have hkz := neq_zero fe.sm ff.sm hk
      have hkn := norm_pos hk
      have r3 := rest_dv hkn dvg
      have D3 := Lib.hid (div_to qft.1 qft.2 fe ff hkn rfl rfl r3.1 r3.2)
      rw [fz0] at D3
      clear kx ky fx1 fx2 fy1 fy2 gdv dvg gft qft qdx qdy ft ft2 la lb lc ld le lf hp1 hp2 hne hnn r1 r2 fe ff r3 hkn hk
      generalize fz (qx x1 x2 h1 h2) = u1 at *
      generalize fz (qy x1 x2 h1 h2) = u2 at *
      generalize fz (qx y1 y2 h1 h2) = u3 at *
      generalize fz (qy y1 y2 h1 h2) = u4 at *
      generalize fz (qx h1 h2 ne nf) = u5 at *
      generalize fz (qy h1 h2 ne nf) = u6 at *
      generalize fz x1 = v1 at *
      generalize fz x2 = v2 at *
      generalize fz y1 = v3 at *
      generalize fz y2 = v4 at *
      generalize fz h1 = v5 at *
      generalize fz h2 = v6 at *
      generalize fz na = qa at *
      generalize fz nb = qb at *
      generalize fz nc = qc at *
      generalize fz nd = qd at *
      generalize fz ne = qe at *
      generalize fz nf = qf at *
      go_enter Try.func3, Try.ntmps3
      go_wp2_with fail
      refine (Pe.out _).mono ?_
      rintro e w' ⟨rfl, rfl⟩
      go_wp2_with fail
      refine (Pf.out _).mono ?_
      rintro e w' ⟨rfl, rfl⟩
      go_wp2_with fail
      refine (Pa.out _).mono ?_
      rintro e w' ⟨rfl, rfl⟩
      go_wp2_with fail
      refine (Pb.out _).mono ?_
      rintro e w' ⟨rfl, rfl⟩
      go_wp2_with fail
      refine (M1.out _).mono ?_
      rintro e w' ⟨rfl, rfl⟩
      go_wp2_with fail
      refine (Pc.out _).mono ?_
      rintro e w' ⟨rfl, rfl⟩
      go_wp2_with fail
      refine (Pd.out _).mono ?_
      rintro e w' ⟨rfl, rfl⟩
      go_wp2_with fail
      refine (M2.out _).mono ?_
      rintro e w' ⟨rfl, rfl⟩
      go_wp2_with fail
      refine (G1.out _).mono ?_
      rintro e w' ⟨rfl, rfl⟩
      go_wp2_with fail
      refine (D1.out _).mono ?_
      rintro e w' ⟨rfl, rfl⟩
      go_wp2_with fail
      refine (D2.out _).mono ?_
      rintro e w' ⟨rfl, rfl⟩
      go_wp2_with fail
      refine (D3.out _).mono ?_
      rintro e w' ⟨rfl, rfl⟩
      go_wp2_with fail
      refine (awake_any _).mono ?_
      rintro e w' ⟨rfl, rfl⟩
      go_wp2_with fail
      go_ret
      exact ⟨rfl, Below.refl _ _⟩
end Go.Proofs.Ytpacmghekfkidaa.Ga
