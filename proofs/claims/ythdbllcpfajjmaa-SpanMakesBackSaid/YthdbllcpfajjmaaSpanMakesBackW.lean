/-
  'SpanMakesBack' walked: a stretch's ends are where it begins, and that far behind.
-/
import Derived.Test.YthdbllcpfajjmaaSpan6
namespace Go.Proofs.Ythdbllcpfajjmaa.Sp
open Fl Go.RowKit Ga Wd
set_option linter.unusedVariables false
set_option maxHeartbeats 1600000 in
theorem makesBack_walk (a n : Int) (w : World) (h1 : -9223372036854775808 ≤ a) (h2 : a ≤ 9223372036854775807) (h3 : -9223372036854775808 ≤ n) (h4 : n ≤ 9223372036854775807) :
    Calls Try.prog 3 #[.int .i64 a, .int .i64 n] w fun e w' => e = .returned (.bool true) ∧ Below w.heap.size w w' := by
  by_cases h : St a n
  · have MK := Lib.hid (fun w => smake_yes h w)
    have EN := Lib.hid (fun w => ends_yes h w)
    have MY := Lib.hid (fun w => may_yes h w)
    have E1 : (FloatKind.f64.format.order (fz a) (floatOfInt .f64 a) == some .eq) = true := self_fz h.a.sm
    have E2 : (FloatKind.f64.format.order (fz n) (floatOfInt .f64 n) == some .eq) = true := self_fz h.n.sm
    have hs := h
    unfold St at hs
    obtain ⟨s1, s2, s3⟩ := hs
    have hd : a + n - a = n := by omega
    clear h
    generalize fz a = x at *
    generalize fz n = y at *
    go_enter Try.func3, Try.ntmps3
    go_wp2_with fail
    refine (MK.out _).mono ?_
    rintro e w' ⟨rfl, rfl⟩
    go_wp2_with fail
    refine (EN.out _).mono ?_
    rintro e w' ⟨rfl, rfl⟩
    go_wp2_with fail
    refine (MY.out _).mono ?_
    rintro e w' ⟨rfl, rfl⟩
    go_wp2_with fail
    refine (awake_any _).mono ?_
    rintro e w9 ⟨rfl, hb9⟩
    go_wp2_with fail
    go_ret
    exact ⟨rfl, hb9⟩
  · have MK := Lib.hid (fun w => smake_no h w)
    have o0 := ord0
    clear h
    go_enter Try.func3, Try.ntmps3
    go_wp2_with fail
    refine (MK.out _).mono ?_
    rintro e w' ⟨rfl, rfl⟩
    go_wp2_with fail
    refine (ends_zero _).mono ?_
    rintro e w' ⟨rfl, rfl⟩
    go_wp2_with fail
    refine (may_zero _).mono ?_
    rintro e w' ⟨rfl, rfl⟩
    go_wp2_with fail
    refine (awake_any _).mono ?_
    rintro e w9 ⟨rfl, hb9⟩
    go_wp2_with fail
    go_ret
    exact ⟨rfl, hb9⟩
end Go.Proofs.Ythdbllcpfajjmaa.Sp
