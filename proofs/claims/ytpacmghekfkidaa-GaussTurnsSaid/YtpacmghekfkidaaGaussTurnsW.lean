/-
  'GaussTurns' walked.
-/
import Derived.Test.YtpacmghekfkidaaGauss8
namespace Go.Proofs.Ytpacmghekfkidaa.Ga
open Fl Go.RowKit Pl
set_option linter.unusedVariables false

set_option maxRecDepth 100000 in
set_option maxHeartbeats 1000000 in
theorem turns_walk (a b n : Int) (w : World) (ha : -9223372036854775808 ≤ a) (ha' : a ≤ 9223372036854775807) (hb : -9223372036854775808 ≤ b) (hb' : b ≤ 9223372036854775807) (hn : -9223372036854775808 ≤ n) (hn' : n ≤ 9223372036854775807) :
    Calls Try.prog 7 #[.int .i64 a, .int .i64 b, .int .i64 n] w fun e w' => e = .returned (.bool true) ∧ Below w.heap.size w w' := by
  have HP := Lib.hid (fun w => place_any n 4 w (by omega) (by omega) hn hn')
  have E0 := e00
  by_cases h : Fits a b
  · obtain ⟨fa, fb⟩ := h
    obtain ⟨m, hm, hm4⟩ : ∃ m : Nat, n % 4 = (m : Int) ∧ m < 4 := ⟨(n % 4).toNat, by omega, by omega⟩
    have hpl : placeZ n 4 = (m : Int) := hm
    rw [hpl] at HP
    have hf := turnN_fit fa fb m
    have T1 := Lib.hid (turn_to (n := n) fa fb (X := (turnN m a b).1) (Y := (turnN m a b).2) (by rw [hm, Int.toNat_natCast]) (by rw [hm, Int.toNat_natCast]))
    have T2 := Lib.hid (turn_to (n := 4 - (m : Int)) hf.1 hf.2 (X := a) (Y := b) (by rw [turn_back a b hm4]) (by rw [turn_back a b hm4]))
    have C1 := Lib.hid (conj_to fa fb rfl)
    have C2 := Lib.hid (conj_to fa fb.neg (Y := b) (by omega))
    have N1 := Lib.hid (norm_to fa fb rfl)
    have N2 := Lib.hid (norm_to hf.1 hf.2 (turnN_norm a b m))
    have HM := Lib.hid (make_to fa fb)
    have E1 := self_fz fa.sm
    have E2 := self_fz fb.sm
    have hmI : (m : Int) < 4 := by omega
    have hm0 : (0 : Int) ≤ (m : Int) := by omega
    generalize norm a b = k at *
    have E7 : (k == k) = true := by simp
    clear hf fa fb hm hpl ha ha' hb hb' hn hn'
    generalize (turnN m a b).1 = p at *
    generalize (turnN m a b).2 = q at *
    generalize fz (-b) = zb at *
    generalize fz a = za at *
    generalize fz b = zc at *
    generalize fz p = zp at *
    generalize fz q = zq at *
    go_enter Try.func7, Try.ntmps7
    go_wp2_with fail
    refine (HM.out _).mono ?_
    rintro e w' ⟨rfl, rfl⟩
    go_wp2_with fail
    refine (T1.out _).mono ?_
    rintro e w' ⟨rfl, rfl⟩
    go_wp2_with fail
    refine (HP.out _).mono ?_
    rintro e w' ⟨rfl, rfl⟩
    go_wp2_with fail
    refine (T2.out _).mono ?_
    rintro e w' ⟨rfl, rfl⟩
    go_wp2_with fail
    refine (C1.out _).mono ?_
    rintro e w' ⟨rfl, rfl⟩
    go_wp2_with fail
    refine (C2.out _).mono ?_
    rintro e w' ⟨rfl, rfl⟩
    go_wp2_with fail
    refine (N1.out _).mono ?_
    rintro e w' ⟨rfl, rfl⟩
    go_wp2_with fail
    refine (N2.out _).mono ?_
    rintro e w' ⟨rfl, rfl⟩
    go_wp2_with fail
    refine (awake_any _).mono ?_
    rintro e w' ⟨rfl, rfl⟩
    go_wp2_with fail
    go_ret
    exact ⟨rfl, Below.refl _ _⟩
  · have HM := Lib.hid (make_no h)
    clear h HP
    go_enter Try.func7, Try.ntmps7
    go_wp2_with fail
    refine (HM.out _).mono ?_
    rintro e w' ⟨rfl, rfl⟩
    go_wp2_with fail
    refine (awake_any _).mono ?_
    rintro e w' ⟨rfl, rfl⟩
    go_wp2_with fail
    go_ret
    exact ⟨rfl, Below.refl _ _⟩
end Go.Proofs.Ytpacmghekfkidaa.Ga
