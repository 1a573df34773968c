/-
  chunk: Size, Stretch.
-/
import Derived.Test.YtndfkpajojbfkaaChunk0
namespace Go.Proofs.Ytndfkpajojbfkaa.Ck
open Go.RowKit Wd Is Sp Fl Ga
set_option linter.unusedVariables false

theorem max_form (s a n : Int) : (if s < a + n then a + n else s) = max s (a + n) := by omega
section
variable {s a n : Int}
theorem not_may (h : ¬ May s a n) : s < 0 ∨ (0 ≤ s ∧ 4096 < s) ∨ (0 ≤ s ∧ s ≤ 4096 ∧ a < 0) ∨ (0 ≤ s ∧ s ≤ 4096 ∧ 0 ≤ a ∧ 4096 < a) ∨ (0 ≤ s ∧ s ≤ 4096 ∧ 0 ≤ a ∧ a ≤ 4096 ∧ n < 0) ∨
    (0 ≤ s ∧ s ≤ 4096 ∧ 0 ≤ a ∧ a ≤ 4096 ∧ 0 ≤ n ∧ 4096 - a < n) := by unfold May at h; omega
theorem size_no (h : ¬ May s a n) (w : World) : Calls Try.prog 8 #[.int .i64 s, .int .i64 a, .int .i64 n] w fun e w' => e = .returned (.tuple #[.int .i64 0, .bool false]) ∧ w = w' := by
  rcases not_may h with h1 | ⟨h1, h2⟩ | ⟨h1, h2, h3⟩ | ⟨h1, h2, h3, h4⟩ | ⟨h1, h2, h3, h4, h5⟩ | ⟨h1, h2, h3, h4, h5, h6⟩
  all_goals
    clear h
    go_enter Try.func8, Try.ntmps8
    go_wp2
    go_ret2
    exact ⟨rfl, rfl⟩
theorem size_yes (h : May s a n) (w : World) : Calls Try.prog 8 #[.int .i64 s, .int .i64 a, .int .i64 n] w fun e w' => e = .returned (.tuple #[.int .i64 (sizeZ s a n), .bool true]) ∧ w = w' := by
  obtain ⟨h1, h2, h3, h4, h5, h6⟩ := h
  by_cases h0 : n = 0
  · subst h0
    go_enter Try.func8, Try.ntmps8
    go_wp2
    go_ret2
    exact ⟨rfl, rfl⟩
  · have hb : (n == 0) = false := by simpa using h0
    have HZ := Lib.hid (show sizeZ s a n = max s (a + n) from if_neg h0)
    clear h0
    by_cases hlt : s < a + n
    · have HM := Lib.hid (show max s (a + n) = a + n by omega)
      go_enter Try.func8, Try.ntmps8
      go_wp2
      go_ret2
      rw [HZ.out, HM.out]
      exact ⟨rfl, rfl⟩
    · have HM := Lib.hid (show max s (a + n) = s by omega)
      go_enter Try.func8, Try.ntmps8
      go_wp2
      go_ret2
      rw [HZ.out, HM.out]
      exact ⟨rfl, rfl⟩
theorem rmay_no (h : ¬ May s a n) (w : World) : Calls Try.prog 21 #[.int .i64 s, .int .i64 a, .int .i64 n] w fun e w' => e = .returned (.bool false) ∧ w = w' := by
  rcases not_may h with h1 | ⟨h1, h2⟩ | ⟨h1, h2, h3⟩ | ⟨h1, h2, h3, h4⟩ | ⟨h1, h2, h3, h4, h5⟩ | ⟨h1, h2, h3, h4, h5, h6⟩
  all_goals
    clear h
    try have hd : decide (n ≤ 4096 - a) = false := by (simp; omega)
    go_enter Try.func21, Try.ntmps21
    go_wp2
    go_ret
    exact ⟨rfl, rfl⟩
theorem rmay_yes (h : May s a n) (w : World) : Calls Try.prog 21 #[.int .i64 s, .int .i64 a, .int .i64 n] w fun e w' => e = .returned (.bool true) ∧ w = w' := by
  obtain ⟨h1, h2, h3, h4, h5, h6⟩ := h
  go_enter Try.func21, Try.ntmps21
  go_wp2
  go_ret
  exact ⟨rfl, rfl⟩
theorem rsize_no (h : ¬ May s a n) (w : World) : Calls Try.prog 9 #[.int .i64 s, .int .i64 a, .int .i64 n] w fun e w' => e = .returned (.tuple #[.int .i64 0, .bool false]) ∧ w = w' := by
  have HM := Lib.hid (fun w => rmay_no h w)
  clear h
  go_enter Try.func9, Try.ntmps9
  go_wp2_with fail
  refine (HM.out _).mono ?_
  rintro e w' ⟨rfl, rfl⟩
  go_wp2_with fail
  go_ret2
  exact ⟨rfl, rfl⟩
theorem rsize_yes (h : May s a n) (w : World) : Calls Try.prog 9 #[.int .i64 s, .int .i64 a, .int .i64 n] w fun e w' => e = .returned (.tuple #[.int .i64 (sizeZ s a n), .bool true]) ∧ w = w' := by
  have HM := Lib.hid (fun w => rmay_yes h w)
  obtain ⟨h1, h2, h3, h4, h5, h6⟩ := h
  by_cases h0 : n = 0
  · subst h0
    go_enter Try.func9, Try.ntmps9
    go_wp2_with fail
    refine (HM.out _).mono ?_
    rintro e w' ⟨rfl, rfl⟩
    go_wp2_with fail
    go_ret2
    exact ⟨rfl, rfl⟩
  · have hb : (n == 0) = false := by simpa using h0
    have HZ := Lib.hid (show sizeZ s a n = max s (a + n) from if_neg h0)
    clear h0
    by_cases hlt : s < a + n
    · have HN := Lib.hid (show max s (a + n) = a + n by omega)
      go_enter Try.func9, Try.ntmps9
      go_wp2_with fail
      refine (HM.out _).mono ?_
      rintro e w' ⟨rfl, rfl⟩
      go_wp2_with fail
      go_ret2
      rw [HZ.out, HN.out]
      exact ⟨rfl, rfl⟩
    · have HN := Lib.hid (show max s (a + n) = s by omega)
      go_enter Try.func9, Try.ntmps9
      go_wp2_with fail
      refine (HM.out _).mono ?_
      rintro e w' ⟨rfl, rfl⟩
      go_wp2_with fail
      go_ret2
      rw [HZ.out, HN.out]
      exact ⟨rfl, rfl⟩
/-- is there a stretch -/
def Some (a n : Int) : Prop := 1 ≤ n ∧ 0 ≤ a ∧ a ≤ 4096 ∧ n ≤ 4096 - a
theorem stretch_no (h : ¬ Some a n) (w : World) : Calls Try.prog 12 #[.int .i64 a, .int .i64 n] w fun e w' => e = .returned (.tuple #[.complex .f64 0 0, .bool false]) ∧ w = w' := by
  have hc : n < 1 ∨ (1 ≤ n ∧ a < 0) ∨ (1 ≤ n ∧ 0 ≤ a ∧ 4096 < a) ∨ (1 ≤ n ∧ 0 ≤ a ∧ a ≤ 4096 ∧ 4096 - a < n) := by unfold Some at h; omega
  clear h
  rcases hc with h1 | ⟨h1, h2⟩ | ⟨h1, h2, h3⟩ | ⟨h1, h2, h3, h4⟩
  all_goals
    go_enter Try.func12, Try.ntmps12
    go_wp2
    go_ret2
    exact ⟨rfl, rfl⟩
theorem stretch_yes (h : Some a n) (w : World) : Calls Try.prog 12 #[.int .i64 a, .int .i64 n] w fun e w' =>
    e = .returned (.tuple #[.complex .f64 (fz (a / 128)) (fz ((a + n - 1) / 128 - a / 128 + 1)), .bool true]) ∧ w = w' := by
  have HS := Lib.hid (fun w => smake_yes (a := a / 128) (n := (a + n - 1) / 128 - a / 128 + 1) (by unfold St; unfold Some at h; omega) w)
  obtain ⟨h1, h2, h3, h4⟩ := h
  have h5 : 0 ≤ a + n - 1 := by omega
  generalize fz (a / 128) = p at *
  generalize fz ((a + n - 1) / 128 - a / 128 + 1) = q at *
  go_enter Try.func12, Try.ntmps12
  go_wp2_with fail
  refine (HS.out _).mono ?_
  rintro e w' ⟨rfl, rfl⟩
  go_wp2_with fail
  go_ret2
  exact ⟨rfl, rfl⟩
end
end Go.Proofs.Ytndfkpajojbfkaa.Ck
