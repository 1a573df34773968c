/-
  span: the law's awake.
-/
import Derived.Test.YthdbllcpfajjmaaSpan5
namespace Go.Proofs.Ythdbllcpfajjmaa.Sp
open Fl Go.RowKit Ga Wd
set_option linter.unusedVariables false

theorem k4 : fz 4 = 4616189618054758400 := by decide +kernel
theorem k2 : fz 2 = 4611686018427387904 := by decide +kernel
theorem k6 : fz 6 = 4618441417868443648 := by decide +kernel
theorem k1 : fz 1 = 4607182418800017408 := by decide +kernel
theorem k3 : fz 3 = 4613937818241073152 := by decide +kernel
theorem k5 : fz 5 = 4617315517961601024 := by decide +kernel
def ex3 : Ls := [(4, 2), (6, 1), (0, 1)]
def exN : Ls := [(0, 1), (4, 3)]
def exW : Ls := [(0, 2), (3, 2)]
theorem ex3_st : AllSt ex3 := by decide
theorem exN_nf : nf ex3 = exN := by
  refine nf_eq ex3_st (by decide) (by decide) fun x => ?_
  rw [Bool.eq_iff_iff, inB_iff, inB_iff]
  simp [exN, ex3]
  omega
theorem exW_eq : withP (0, 5) (2, 1) = exW := by decide
theorem with_ex (w : World) : Calls Try.prog 19 #[.complex .f64 0 4617315517961601024, .complex .f64 4611686018427387904 4607182418800017408] w (ResC w exW) := by
  have h := without_any (p := (0, 5)) (q := (2, 1)) (by decide) (by decide) w
  rw [exW_eq] at h
  unfold cv at h
  simp only at h
  rw [fz0, k5, k2, k1] at h
  exact h
theorem may_ex (w : World) : Calls Try.prog 11 #[.complex .f64 0 4607182418800017408] w fun e w' => e = .returned (.bool true) ∧ w = w' := by
  have h := may_yes (a := 0) (n := 1) (by decide) w
  rw [fz0, k1] at h
  exact h
theorem ord0 : FloatKind.f64.format.order 0 0 = some .eq := by decide +kernel
theorem ord4 : FloatKind.f64.format.order 4616189618054758400 4616189618054758400 = some .eq := by decide +kernel
theorem ord2 : FloatKind.f64.format.order 4611686018427387904 4611686018427387904 = some .eq := by decide +kernel
theorem ord3 : FloatKind.f64.format.order 4613937818241073152 4613937818241073152 = some .eq := by decide +kernel
set_option maxHeartbeats 1600000 in
theorem awake_any (w : World) : Calls Try.prog 12 #[] w fun e w' => e = .returned (.bool true) ∧ Below w.heap.size w w' := by
  obtain ⟨W1, hW1⟩ : ∃ W1, W1 = w.alloc (.cells #[.complex .f64 4616189618054758400 4611686018427387904, .complex .f64 4618441417868443648 4607182418800017408, .complex .f64 0 4607182418800017408] 22) := ⟨_, rfl⟩
  have HN : Hid (Calls Try.prog 14 #[.slice (some ⟨w.heap.size, 0, none⟩) 3 3] W1 (NormR W1 exN)) := by
    refine Lib.hid ?_
    have h := norm_any (some ⟨w.heap.size, 0, none⟩) ex3 3 W1 ex3_st ⟨rfl, fun _ => ⟨_, rfl, by rw [hW1]; simp, fun j u hu => by
      rw [hW1, Addr.add_lit, cell_of_row _ _ _ _ _ (0, 0) (heap_alloc_new w _), Nat.zero_add]
      rw [← hu]
      unfold ex3 cv
      simp only [List.map_cons, List.map_nil]
      rw [k4, k2, k6, k1, fz0]
      simp⟩⟩ (by decide)
    rw [exN_nf] at h
    exact h
  have HB1 : Hid (Below w.heap.size w W1) := Lib.hid (by rw [hW1]; exact (Below.refl _ _).alloc (Nat.le_refl _) _)
  have o0 := ord0
  have o4 := ord4
  have o2 := ord2
  have o3 := ord3
  go_enter Try.func12, Try.ntmps12
  go_wp2_with fail
  rw [← hW1]
  refine HN.out.mono ?_
  rintro e w2 ⟨A2, c2, rfl, hs2, hc2, hm2, hb2⟩
  have HB2 := Lib.hid (HB1.out.trans (Below.mono hb2 HB1.out.size))
  have HS2 := Lib.hid hs2
  rw [show exN.length = 2 from rfl]
  clear hs2 hc2 hb2 hW1 HN
  go_wp2_with fail
  refine (with_ex _).mono ?_
  rintro e w3 ⟨A3, c3, rfl, hs3, hc3, hm3, hb3, _⟩
  have HB3 := Lib.hid (HB2.out.trans (Below.mono hb3 HB2.out.size))
  have hs23 := HS2.out.on (Nat.le_refl _) hb3
  rw [show exW.length = 2 from rfl]
  obtain ⟨b2, f2, rfl, _, hcc2⟩ := hs23.at (by decide) (by decide)
  obtain ⟨b3, f3, rfl, _, hcc3⟩ := hs3.at (by decide) (by decide)
  have d1 : w3.cell? ⟨b2, f2 + 1, none⟩ = some (.complex .f64 4616189618054758400 4613937818241073152) := by
    have := hcc2 1 (cv (4, 3)) rfl
    rw [this]
    unfold cv
    simp only
    rw [k4, k3]
  have d2 : w3.cell? ⟨b3, f3, none⟩ = some (.complex .f64 0 4611686018427387904) := by
    have := hcc3 0 (cv (0, 2)) rfl
    rw [Nat.add_zero] at this
    rw [this]
    unfold cv
    simp only
    rw [fz0, k2]
  have d3 : w3.cell? ⟨b3, f3 + 1, none⟩ = some (.complex .f64 4613937818241073152 4611686018427387904) := by
    have := hcc3 1 (cv (3, 2)) rfl
    rw [this]
    unfold cv
    simp only
    rw [k3, k2]
  clear hs23 hs3 hcc2 hcc3 hb3 hc3 hm3
  go_wp2_with fail
  refine (may_ex _).mono ?_
  rintro e w' ⟨rfl, rfl⟩
  go_wp2_with fail
  go_ret
  exact ⟨rfl, HB3.out⟩
end Go.Proofs.Ythdbllcpfajjmaa.Sp
