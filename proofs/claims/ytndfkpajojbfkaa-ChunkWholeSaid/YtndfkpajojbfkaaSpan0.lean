/-
  span: May, Make, Ends.
-/
import Derived.Test.YtndfkpajojbfkaaCx
namespace Go.Proofs.Ytndfkpajojbfkaa.Sp
open Fl Go.RowKit Ga
set_option linter.unusedVariables false

/-- a stretch: n places from a on -/
def St (a n : Int) : Prop := 0 ≤ a ∧ 1 ≤ n ∧ a + n ≤ 33554432
instance (a n : Int) : Decidable (St a n) := by unfold St; infer_instance
theorem St.a {a n : Int} (h : St a n) : Ft a := by unfold St at h; unfold Ft; omega
theorem St.n {a n : Int} (h : St a n) : Ft n := by unfold St at h; unfold Ft; omega
theorem f1 : fz 1 = 4607182418800017408 := by decide +kernel
theorem geq_zero {a : Int} (ha : Sm a) : (FloatKind.f64.format.order (fz a) 0 == some .gt || FloatKind.f64.format.order (fz a) 0 == some .eq) = decide (0 ≤ a) := by
  rw [← fz0, order_fz ha (by unfold Sm; decide), cmp_gt, cmp_eq, ← Bool.decide_or]
  congr 1
  apply propext
  omega
theorem geq_one {a : Int} (ha : Sm a) : (FloatKind.f64.format.order (fz a) 4607182418800017408 == some .gt || FloatKind.f64.format.order (fz a) 4607182418800017408 == some .eq) = decide (1 ≤ a) := by
  rw [← f1, order_fz ha (by unfold Sm; decide), cmp_gt, cmp_eq, ← Bool.decide_or]
  congr 1
  apply propext
  omega
theorem sum_fz {a b : Int} (ha : Ft a) (hb : Ft b) (h0 : 0 ≤ a) : floatBits .add .f64 (fz a) (fz b) = some (fz (a + b)) := by
  have h := add_rep (rep_fz ha.sm) (rep_fz hb.sm) (by unfold Ft at *; omega)
  rw [h, fz_can]
  congr 2
  by_cases hz : a + b = 0
  · rw [if_pos hz, hz]
    have : ¬ a < 0 := by omega
    simp [this]
  · rw [if_neg hz]
theorem may_yes {a n : Int} (h : St a n) (w : World) : Calls Try.prog 25 #[.complex .f64 (fz a) (fz n)] w fun e w' => e = .returned (.bool true) ∧ w = w' := by
  have HI := Lib.hid (fun w => is_yes h.a h.n w)
  unfold cz at HI
  have g1 := geq_zero h.a.sm
  have g2 := geq_one h.n.sm
  have hs : Sm (a + n) := by unfold St at h; unfold Sm; omega
  have g3 := leq_top hs
  rw [decide_eq_true h.1] at g1
  rw [decide_eq_true h.2.1] at g2
  rw [decide_eq_true h.2.2] at g3
  have k1 := fun w => run_float_arith (P := Try.prog) w .add 30 .f64 (fz a) (fz n) _ (sum_fz h.a h.n h.1)
  clear h hs
  generalize fz (a + n) = r at *
  generalize fz a = p at *
  generalize fz n = q at *
  go_enter Try.func25, Try.ntmps25
  go_wp2_with fail
  refine (HI.out _).mono ?_
  rintro e w' ⟨rfl, rfl⟩
  go_wp2_with fail
  go_ret
  exact ⟨rfl, rfl⟩
theorem may_no {a n : Int} (ha : Ft a) (hn : Ft n) (h : ¬ St a n) (w : World) : Calls Try.prog 25 #[.complex .f64 (fz a) (fz n)] w fun e w' => e = .returned (.bool false) ∧ w = w' := by
  have HI := Lib.hid (fun w => is_yes ha hn w)
  unfold cz at HI
  have g1 := geq_zero ha.sm
  have g2 := geq_one hn.sm
  by_cases h1 : 0 ≤ a
  · rw [decide_eq_true h1] at g1
    by_cases h2 : 1 ≤ n
    · rw [decide_eq_true h2] at g2
      have hs : Sm (a + n) := by unfold Ft at *; unfold Sm; omega
      have g3 := leq_top hs
      rw [decide_eq_false (by unfold St at h; omega)] at g3
      have k1 := fun w => run_float_arith (P := Try.prog) w .add 30 .f64 (fz a) (fz n) _ (sum_fz ha hn h1)
      clear h hs ha hn h1 h2
      generalize fz (a + n) = r at *
      generalize fz a = p at *
      generalize fz n = q at *
      go_enter Try.func25, Try.ntmps25
      go_wp2_with fail
      refine (HI.out _).mono ?_
      rintro e w' ⟨rfl, rfl⟩
      go_wp2_with fail
      go_ret
      exact ⟨rfl, rfl⟩
    · rw [decide_eq_false h2] at g2
      clear h ha hn h1 h2
      generalize fz a = p at *
      generalize fz n = q at *
      go_enter Try.func25, Try.ntmps25
      go_wp2_with fail
      refine (HI.out _).mono ?_
      rintro e w' ⟨rfl, rfl⟩
      go_wp2_with fail
      go_ret
      exact ⟨rfl, rfl⟩
  · rw [decide_eq_false h1] at g1
    clear h ha hn h1 g2
    generalize fz a = p at *
    generalize fz n = q at *
    go_enter Try.func25, Try.ntmps25
    go_wp2_with fail
    refine (HI.out _).mono ?_
    rintro e w' ⟨rfl, rfl⟩
    go_wp2_with fail
    go_ret
    exact ⟨rfl, rfl⟩
theorem may_zero (w : World) : Calls Try.prog 25 #[.complex .f64 0 0] w fun e w' => e = .returned (.bool false) ∧ w = w' := by
  have h := may_no (a := 0) (n := 0) (by unfold Ft; decide) (by unfold Ft; decide) (by decide) w
  rw [fz0] at h
  exact h
theorem smake_yes {a n : Int} (h : St a n) (w : World) : Calls Try.prog 23 #[.int .i64 a, .int .i64 n] w fun e w' => e = .returned (.tuple #[.complex .f64 (fz a) (fz n), .bool true]) ∧ w = w' := by
  have HM := Lib.hid (fun w => make_yes h.a h.n w)
  have HY := Lib.hid (fun w => may_yes h w)
  unfold cz at HM
  clear h
  generalize fz a = p at *
  generalize fz n = q at *
  go_enter Try.func23, Try.ntmps23
  go_wp2_with fail
  refine (HM.out _).mono ?_
  rintro e w' ⟨rfl, rfl⟩
  go_wp2_with fail
  refine (HY.out _).mono ?_
  rintro e w' ⟨rfl, rfl⟩
  go_wp2_with fail
  go_ret2
  exact ⟨rfl, rfl⟩
theorem smake_no {a n : Int} (h : ¬ St a n) (w : World) : Calls Try.prog 23 #[.int .i64 a, .int .i64 n] w fun e w' => e = .returned (.tuple #[.complex .f64 0 0, .bool false]) ∧ w = w' := by
  by_cases hf : Fits a n
  · have HM := Lib.hid (fun w => make_yes hf.1 hf.2 w)
    have HY := Lib.hid (fun w => may_no hf.1 hf.2 h w)
    unfold cz at HM
    clear h hf
    generalize fz a = p at *
    generalize fz n = q at *
    go_enter Try.func23, Try.ntmps23
    go_wp2_with fail
    refine (HM.out _).mono ?_
    rintro e w' ⟨rfl, rfl⟩
    go_wp2_with fail
    refine (HY.out _).mono ?_
    rintro e w' ⟨rfl, rfl⟩
    go_wp2_with fail
    go_ret2
    exact ⟨rfl, rfl⟩
  · have HM := Lib.hid (fun w => make_no hf w)
    clear h hf
    go_enter Try.func23, Try.ntmps23
    go_wp2_with fail
    refine (HM.out _).mono ?_
    rintro e w' ⟨rfl, rfl⟩
    go_wp2_with fail
    go_ret2
    exact ⟨rfl, rfl⟩
theorem ends_yes {a n : Int} (h : St a n) (w : World) : Calls Try.prog 22 #[.complex .f64 (fz a) (fz n)] w fun e w' => e = .returned (.tuple #[.int .i64 a, .int .i64 (a + n)]) ∧ w = w' := by
  have HY := Lib.hid (fun w => may_yes h w)
  have hs : Sm (a + n) := by unfold St at h; unfold Sm; omega
  have k1 := fun w => run_float_arith (P := Try.prog) w .add 30 .f64 (fz a) (fz n) _ (sum_fz h.a h.n h.1)
  have k2 := fun w => run_convert_float_int (P := Try.prog) w 30 3 .f64 .i64 (fz a) a (by rw [Try.underlying30]; rfl) Try.underlying3 (conv_fz h.a.sm)
  have k3 := fun w => run_convert_float_int (P := Try.prog) w 30 3 .f64 .i64 (fz (a + n)) (a + n) (by rw [Try.underlying30]; rfl) Try.underlying3 (conv_fz hs)
  clear h hs
  generalize fz (a + n) = r at *
  generalize fz a = p at *
  generalize fz n = q at *
  go_enter Try.func22, Try.ntmps22
  go_wp2_with fail
  refine (HY.out _).mono ?_
  rintro e w' ⟨rfl, rfl⟩
  go_wp2_with fail
  go_ret2
  exact ⟨rfl, rfl⟩
theorem ends_zero (w : World) : Calls Try.prog 22 #[.complex .f64 0 0] w fun e w' => e = .returned (.tuple #[.int .i64 0, .int .i64 0]) ∧ w = w' := by
  go_enter Try.func22, Try.ntmps22
  go_wp2_with fail
  refine (may_zero _).mono ?_
  rintro e w' ⟨rfl, rfl⟩
  go_wp2_with fail
  go_ret2
  exact ⟨rfl, rfl⟩
end Go.Proofs.Ytndfkpajojbfkaa.Sp
