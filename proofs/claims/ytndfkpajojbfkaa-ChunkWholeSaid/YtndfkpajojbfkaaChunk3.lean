/-
  chunk: the law's awake.
-/
import Derived.Test.YtndfkpajojbfkaaChunk2
namespace Go.Proofs.Ytndfkpajojbfkaa.Ck
open Go.RowKit Wd Is Sp Fl Ga
set_option linter.unusedVariables false

theorem f2 : fz 2 = 4611686018427387904 := by decide +kernel
theorem e00 : (FloatKind.f64.format.order 0 0 == some .eq) = true := by decide +kernel
theorem touched_awake (w : World) : Calls Try.prog 10 #[.int .i64 0, .int .i64 127, .int .i64 2] w (TR w [0, 1]) := by
  have h := touched_yes (s := 0) (a := 127) (n := 2) (by decide) w
  rw [show touched 127 2 = [0, 1] by decide] at h
  exact h
theorem stretch_awake (w : World) : Calls Try.prog 12 #[.int .i64 127, .int .i64 2] w fun e w' => e = .returned (.tuple #[.complex .f64 0 4611686018427387904, .bool true]) ∧ w = w' := by
  have h := stretch_yes (a := 127) (n := 2) (by unfold Some; decide) w
  rw [show ((127 : Int) / 128) = 0 by decide, show ((127 + 2 - 1 : Int) / 128 - 0 + 1) = 2 by decide, fz0, f2] at h
  exact h
theorem blocks_awake (w : World) : Calls Try.prog 13 #[.int .i64 129] w fun e w' => e = .returned (.int .i64 2) ∧ w = w' :=
  blocks_any 129 w (by decide) (by decide)
theorem same_awake (A B : Option Addr) (c d : Nat) (w : World) (hl : Sl w w.heap.size 1 A 2 [.int .i64 0, .int .i64 1]) (hm : Sl w w.heap.size 1 B 2 [.int .i64 0, .int .i64 1]) :
    Calls Try.prog 15 #[.slice A 2 c, .slice B 2 d] w fun e w' => e = .returned (.bool true) ∧ Below w.heap.size w w' :=
  same_any A B [0, 1] [0, 1] c d w hl hm (by decide) (by decide)
set_option maxRecDepth 20000 in
theorem awake_any (w : World) : Calls Try.prog 16 #[] w fun e w' => e = .returned (.bool true) ∧ Below w.heap.size w w' := by
  have e0 := e00
  have e2 : (FloatKind.f64.format.order 4611686018427387904 4611686018427387904 == some .eq) = true := by decide +kernel
  go_enter Try.func16, Try.ntmps16
  go_wp2_with fail
  refine (touched_awake _).mono ?_
  rintro e w1 ⟨A, c, rfl, hs, hc, hb⟩
  have HS := Lib.hid hs
  have HB := Lib.hid hb
  clear hs hb
  go_wp2_with fail
  refine (stretch_awake _).mono ?_
  rintro e w2 ⟨rfl, rfl⟩
  go_wp2_with fail
  refine (same_awake _ _ _ _ _ ((HS.out.alloc (Nat.le_refl _) _).more (by simp)) (Sl.newRow w1 [.int .i64 0, .int .i64 1] 3 2 rfl)).mono ?_
  rintro e w3 ⟨rfl, hb3⟩
  have HB3 := Lib.hid hb3
  clear hb3
  go_wp2_with fail
  refine (blocks_awake _).mono ?_
  rintro e w4 ⟨rfl, rfl⟩
  go_wp2_with fail
  go_ret
  exact ⟨rfl, ((HB.out.alloc HB.out.size _).trans (HB3.out.mono (by simp; have := HB.out.size; omega)))⟩
end Go.Proofs.Ytndfkpajojbfkaa.Ck
