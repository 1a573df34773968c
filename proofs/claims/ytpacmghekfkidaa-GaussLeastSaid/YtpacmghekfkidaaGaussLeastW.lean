/-
  'GaussLeast' walked.
-/
import Derived.Test.YtpacmghekfkidaaGauss8
namespace Go.Proofs.Ytpacmghekfkidaa.Ga
open Fl Go.RowKit Pl
set_option linter.unusedVariables false

set_option maxRecDepth 100000 in
set_option maxHeartbeats 1000000 in
theorem least_walk (a b n : Int) (w : World) (ha : -9223372036854775808 ≤ a) (ha' : a ≤ 9223372036854775807) (hb : -9223372036854775808 ≤ b) (hb' : b ≤ 9223372036854775807) (hn : -9223372036854775808 ≤ n) (hn' : n ≤ 9223372036854775807) :
    Calls Try.prog 4 #[.int .i64 a, .int .i64 b, .int .i64 n] w fun e w' => e = .returned (.bool true) ∧ Below w.heap.size w w' := by
  have E0 := e00
  by_cases h : Fits a b
  · obtain ⟨fa, fb⟩ := h
    obtain ⟨m, hm, hm4⟩ : ∃ m : Nat, n % 4 = (m : Int) ∧ m < 4 := ⟨(n % 4).toNat, by omega, by omega⟩
    have hf := turnN_fit fa fb m
    have HM := Lib.hid (make_to fa fb)
    have T1 := Lib.hid (turn_to (n := n) fa fb (X := (turnN m a b).1) (Y := (turnN m a b).2) (by rw [hm, Int.toNat_natCast]) (by rw [hm, Int.toNat_natCast]))
    have f0 : Ft 0 := by decide
    have hq := quad_fit fa fb
    have tq := turnN_quad a b m
    have tn := turnN_dv (a := a) (b := b) m
    have G1 := Lib.hid (gcd_to fa fb f0 f0 (X := (quad a b).1) (Y := (quad a b).2) (by rw [gcd_stop]) (by rw [gcd_stop]))
    have G2 := Lib.hid (gcd_to f0 f0 hf.1 hf.2 (X := (quad a b).1) (Y := (quad a b).2) (by rw [gcd_zero_left, tq]) (by rw [gcd_zero_left, tq]))
    have hg3 : gcdE a b (turnN m a b).1 (turnN m a b).2 = ((turnN m a b).1, (turnN m a b).2) := by
      by_cases hz : (turnN m a b).1 = 0 ∧ (turnN m a b).2 = 0
      · rw [hz.1, hz.2] at tn
        obtain ⟨rfl, rfl⟩ := dv_zero tn
        rw [hz.1, hz.2, gcd_stop]
      · exact gcd_divided hz tn
    have G3 := Lib.hid (gcd_to fa fb hf.1 hf.2 (X := (quad a b).1) (Y := (quad a b).2) (by rw [hg3, tq]) (by rw [hg3, tq]))
    rw [fz0] at G1 G2
    have E1 := self_fz hq.1.sm
    have E2 := self_fz hq.2.sm
    have N1 := Lib.hid (norm_to fa fb rfl)
    have N2 := Lib.hid (norm_to hq.1 hq.2 (quad_norm a b))
    have qf := quad_first a b
    generalize norm a b = k at *
    have E7 : (k == k) = true := by simp
    rcases qf with ⟨h1, h2, rfl, rfl⟩ | ⟨hp1, hp2⟩
    · rw [h1, h2] at G1 G2 G3
      rw [fz0] at G1 G2 G3 HM T1
      clear hf fa fb hm ha ha' hb hb' hn hn' f0 tq tn hg3 h1 h2 N1 N2 E1 E2
      generalize (turnN m 0 0).1 = p at *
      generalize (turnN m 0 0).2 = q at *
      generalize fz p = zp at *
      generalize fz q = zq at *
      go_enter Try.func4, Try.ntmps4
      go_wp2_with fail
      refine (HM.out _).mono ?_
      rintro e w' ⟨rfl, rfl⟩
      go_wp2_with fail
      refine (T1.out _).mono ?_
      rintro e w' ⟨rfl, rfl⟩
      go_wp2_with fail
      refine (G1.out _).mono ?_
      rintro e w' ⟨rfl, rfl⟩
      go_wp2_with fail
      refine (G2.out _).mono ?_
      rintro e w' ⟨rfl, rfl⟩
      go_wp2_with fail
      refine (G3.out _).mono ?_
      rintro e w' ⟨rfl, rfl⟩
      go_wp2_with fail
      refine (awake_any _).mono ?_
      rintro e w' ⟨rfl, rfl⟩
      go_wp2_with fail
      go_ret
      exact ⟨rfl, Below.refl _ _⟩
    · have hnz : ¬ (a = 0 ∧ b = 0) := by
        rintro ⟨rfl, rfl⟩
        exact absurd hp1 (by decide)
      have hn0 := neq_zero fa.sm fb.sm hnz
      have E3 := gtr_zero hq.1.sm hp1
      have E4 := geq_zero hq.2.sm hp2
      clear hf fa fb hm ha ha' hb hb' hn hn' f0 tq tn hg3 hq hp1 hp2 hnz
      generalize (turnN m a b).1 = p at *
      generalize (turnN m a b).2 = q at *
      generalize (quad a b).1 = p2 at *
      generalize (quad a b).2 = q2 at *
      generalize fz p = zp at *
      generalize fz q = zq at *
      generalize fz p2 = zp2 at *
      generalize fz q2 = zq2 at *
      generalize fz a = za at *
      generalize fz b = zb at *
      go_enter Try.func4, Try.ntmps4
      go_wp2_with fail
      refine (HM.out _).mono ?_
      rintro e w' ⟨rfl, rfl⟩
      go_wp2_with fail
      refine (T1.out _).mono ?_
      rintro e w' ⟨rfl, rfl⟩
      go_wp2_with fail
      refine (G1.out _).mono ?_
      rintro e w' ⟨rfl, rfl⟩
      go_wp2_with fail
      refine (G2.out _).mono ?_
      rintro e w' ⟨rfl, rfl⟩
      go_wp2_with fail
      refine (G3.out _).mono ?_
      rintro e w' ⟨rfl, rfl⟩
      go_wp2_with fail
      refine (N1.out _).mono ?_
      rintro e w' ⟨rfl, rfl⟩
      go_wp2_with fail
      refine (N2.out _).mono ?_
      rintro e w' ⟨rfl, rfl⟩
      go_wp2_with fail
      refine (awake_any _).mono ?_
      rintro e w' ⟨rfl, rfl⟩
      go_wp2_with fail
      go_ret
      exact ⟨rfl, Below.refl _ _⟩
  · have HM := Lib.hid (make_no h)
    clear h
    go_enter Try.func4, Try.ntmps4
    go_wp2_with fail
    refine (HM.out _).mono ?_
    rintro e w' ⟨rfl, rfl⟩
    go_wp2_with fail
    refine (awake_any _).mono ?_
    rintro e w' ⟨rfl, rfl⟩
    go_wp2_with fail
    go_ret
    exact ⟨rfl, Below.refl _ _⟩
end Go.Proofs.Ytpacmghekfkidaa.Ga
