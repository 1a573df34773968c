/-
  'ChunkNumbers' walked: sizes, blocks, what is touched, for any numbers.
-/
import Derived.Test.YtndfkpajojbfkaaChunk3
namespace Go.Proofs.Ytndfkpajojbfkaa.Ck
open Go.RowKit Wd Is Sp Fl Ga
set_option linter.unusedVariables false

theorem same_touched (A B : Option Addr) (a n : Nat) (c d k : Nat) (hk : k = (touched a n).length) (hk2 : k ≤ 33) (w : World) (hl : Sl w w.heap.size 1 A k ((touched a n).map (Value.int .i64))) (hm : Sl w w.heap.size 1 B k ((touched a n).map (Value.int .i64))) :
    Calls Try.prog 15 #[.slice A k c, .slice B k d] w fun e w' => e = .returned (.bool true) ∧ Below w.heap.size w w' := by
  subst hk
  have h := same_any A B (touched a n) (touched a n) c d w hl hm (by omega) (by omega)
  rw [beq_self_eq_true] at h
  exact h
theorem same_nil (A B : Option Addr) (c d : Nat) (w : World) :
    Calls Try.prog 15 #[.slice A 0 c, .slice B 0 d] w fun e w' => e = .returned (.bool true) ∧ Below w.heap.size w w' :=
  same_any A B [] [] c d w (Sl.nil _) (Sl.nil _) (by decide) (by decide)

set_option maxRecDepth 100000 in
set_option maxHeartbeats 1600000 in
theorem numbers_walk (s a n : Int) (w : World) (hs : -9223372036854775808 ≤ s) (hs' : s ≤ 9223372036854775807) (ha : -9223372036854775808 ≤ a) (ha' : a ≤ 9223372036854775807) (hn : -9223372036854775808 ≤ n) (hn' : n ≤ 9223372036854775807) :
    Calls Try.prog 3 #[.int .i64 s, .int .i64 a, .int .i64 n] w fun e w' => e = .returned (.bool true) ∧ Below w.heap.size w w' := by
  have BL := Lib.hid (fun w => blocks_any s w hs hs')
  have RB := Lib.hid (fun w => rblocks_any s w hs hs')
  generalize blocksN s = bl at *
  have E7 : (bl == bl) = true := by simp
  have E0 := e00
  by_cases hm : May s a n
  · have S1 := Lib.hid (fun w => size_yes hm w)
    have S2 := Lib.hid (fun w => rsize_yes hm w)
    generalize sizeZ s a n = z at *
    have E6 : (z == z) = true := by simp
    obtain ⟨h1, h2, h3, h4, h5, h6⟩ := hm
    obtain ⟨a, rfl⟩ := Int.eq_ofNat_of_zero_le h3
    obtain ⟨n, rfl⟩ := Int.eq_ofNat_of_zero_le h5
    have T1 := Lib.hid (fun w => touched_yes (s := s) (a := a) (n := n) ⟨h1, h2, h3, h4, h5, h6⟩ w)
    have T2 := Lib.hid (fun w => rtouched_yes (s := s) (a := a) (n := n) ⟨h1, h2, h3, h4, h5, h6⟩ w)
    obtain ⟨k, hk⟩ : ∃ k, k = (touched a n).length := ⟨_, rfl⟩
    have hk33 : k ≤ 33 := by rw [hk, touched_len]; exact cnt_le a n (by omega)
    have hk1 : (1 ≤ n → 1 ≤ k) ∧ (n = 0 → k = 0) := by
      rw [hk, touched_len]
      unfold cnt
      constructor
      · intro h; rw [if_neg (by omega)]; omega
      · intro h; rw [if_pos h]
    have SM := Lib.hid (fun A B c d w => same_touched A B a n c d k hk hk33 w)
    unfold TR at T1 T2
    rw [← hk] at T1 T2
    have HK := Lib.hid hk
    clear hk
    by_cases hn0 : n = 0
    · obtain rfl : k = 0 := hk1.2 hn0
      subst hn0
      have ST := Lib.hid (fun w => stretch_no (a := (a : Int)) (n := ((0 : Nat) : Int)) (by unfold Some; omega) w)
      clear hk1 hk33 h5 h6 HK
      go_enter Try.func3, Try.ntmps3
      go_wp2_with fail
      refine (S1.out _).mono ?_
      rintro e w' ⟨rfl, rfl⟩
      go_wp2_with fail
      refine (S2.out _).mono ?_
      rintro e w' ⟨rfl, rfl⟩
      go_wp2_with fail
      refine (T1.out _).mono ?_
      rintro e w1 ⟨A1, c1, rfl, hs1, hc1, hb1⟩
      have HS1 := Lib.hid hs1
      have HB1 := Lib.hid hb1
      have hz1 := hb1.size
      clear hs1 hb1
      go_wp2_with fail
      refine (T2.out _).mono ?_
      rintro e w2 ⟨A2, c2, rfl, hs2, hc2, hb2⟩
      have HS2 := Lib.hid hs2
      have HB2 := Lib.hid hb2
      have hz2 := hb2.size
      clear hs2 hb2
      go_wp2_with fail
      refine (ST.out _).mono ?_
      rintro e w' ⟨rfl, rfl⟩
      go_wp2_with fail
      refine (BL.out _).mono ?_
      rintro e w' ⟨rfl, rfl⟩
      go_wp2_with fail
      refine (RB.out _).mono ?_
      rintro e w' ⟨rfl, rfl⟩
      go_wp2_with fail
      refine (SM.out _ _ _ _ _ ((HS1.out.below HB2.out).more hz2) HS2.out).mono ?_
      rintro e w5 ⟨rfl, hb5⟩
      have HB5 := Lib.hid hb5
      clear hb5
      go_wp2_with fail
      refine (awake_any _).mono ?_
      rintro e w6 ⟨rfl, hb6⟩
      have HB6 := Lib.hid hb6
      clear hb6
      go_wp2_with fail
      go_ret
      exact ⟨rfl, HB1.out.trans ((HB2.out.mono hz1).trans ((HB5.out.mono (Nat.le_trans hz1 hz2)).trans (HB6.out.mono (Nat.le_trans (Nat.le_trans hz1 hz2) HB5.out.size))))⟩
    · have hn1 : (1 : Int) ≤ (n : Int) := by omega
      have hkp := hk1.1 (by omega)
      have hkI : (0 : Int) < (k : Int) := by omega
      have hq0 : (0 : Int) ≤ (a : Int) + (n : Int) - 1 := by omega
      have ST := Lib.hid (fun w => stretch_yes (a := (a : Int)) (n := (n : Int)) (by unfold Some; omega) w)
      have x1 : Sm ((a : Int) / 128) := by unfold Sm; omega
      have x2 : Sm (((a : Int) + (n : Int) - 1) / 128 - (a : Int) / 128 + 1) := by unfold Sm; omega
      have E1 : (FloatKind.f64.format.order (fz ((a : Int) / 128)) (floatOfInt .f64 ((a : Int) / 128)) == some .eq) = true := self_fz x1
      have E2 : (FloatKind.f64.format.order (fz (((a : Int) + (n : Int) - 1) / 128 - (a : Int) / 128 + 1)) (floatOfInt .f64 (((a : Int) + (n : Int) - 1) / 128 - (a : Int) / 128 + 1)) == some .eq) = true := self_fz x2
      clear hk1 hn0 x1 x2 HK
      go_enter Try.func3, Try.ntmps3
      go_wp2_with fail
      refine (S1.out _).mono ?_
      rintro e w' ⟨rfl, rfl⟩
      go_wp2_with fail
      refine (S2.out _).mono ?_
      rintro e w' ⟨rfl, rfl⟩
      go_wp2_with fail
      refine (T1.out _).mono ?_
      rintro e w1 ⟨A1, c1, rfl, hs1, hc1, hb1⟩
      have HS1 := Lib.hid hs1
      have HB1 := Lib.hid hb1
      have hz1 := hb1.size
      clear hs1 hb1
      go_wp2_with fail
      refine (T2.out _).mono ?_
      rintro e w2 ⟨A2, c2, rfl, hs2, hc2, hb2⟩
      have HS2 := Lib.hid hs2
      have HB2 := Lib.hid hb2
      have hz2 := hb2.size
      clear hs2 hb2
      go_wp2_with fail
      refine (ST.out _).mono ?_
      rintro e w' ⟨rfl, rfl⟩
      go_wp2_with fail
      refine (BL.out _).mono ?_
      rintro e w' ⟨rfl, rfl⟩
      go_wp2_with fail
      refine (RB.out _).mono ?_
      rintro e w' ⟨rfl, rfl⟩
      go_wp2_with fail
      refine (SM.out _ _ _ _ _ ((HS1.out.below HB2.out).more hz2) HS2.out).mono ?_
      rintro e w5 ⟨rfl, hb5⟩
      have HB5 := Lib.hid hb5
      clear hb5
      go_wp2_with fail
      refine (awake_any _).mono ?_
      rintro e w6 ⟨rfl, hb6⟩
      have HB6 := Lib.hid hb6
      clear hb6
      go_wp2_with fail
      go_ret
      exact ⟨rfl, HB1.out.trans ((HB2.out.mono hz1).trans ((HB5.out.mono (Nat.le_trans hz1 hz2)).trans (HB6.out.mono (Nat.le_trans (Nat.le_trans hz1 hz2) HB5.out.size))))⟩
  · have S1 := Lib.hid (fun w => size_no hm w)
    have S2 := Lib.hid (fun w => rsize_no hm w)
    have T1 := Lib.hid (fun w => touched_no hm w)
    have T2 := Lib.hid (fun w => rtouched_no hm w)
    clear hm
    by_cases hsm : Some a n
    · have ST := Lib.hid (fun w => stretch_yes hsm w)
      have hx := hsm
      unfold Some at hx
      have x1 : Sm (a / 128) := by unfold Sm; omega
      have x2 : Sm ((a + n - 1) / 128 - a / 128 + 1) := by unfold Sm; omega
      have E1 : (FloatKind.f64.format.order (fz (a / 128)) (floatOfInt .f64 (a / 128)) == some .eq) = true := self_fz x1
      have E2 : (FloatKind.f64.format.order (fz ((a + n - 1) / 128 - a / 128 + 1)) (floatOfInt .f64 ((a + n - 1) / 128 - a / 128 + 1)) == some .eq) = true := self_fz x2
      obtain ⟨h1, h2, h3, h4⟩ := hsm
      have hq0 : 0 ≤ a + n - 1 := by omega
      clear hx x1 x2
      go_enter Try.func3, Try.ntmps3
      go_wp2_with fail
      refine (S1.out _).mono ?_
      rintro e w' ⟨rfl, rfl⟩
      go_wp2_with fail
      refine (S2.out _).mono ?_
      rintro e w' ⟨rfl, rfl⟩
      go_wp2_with fail
      refine (T1.out _).mono ?_
      rintro e w' ⟨rfl, rfl⟩
      go_wp2_with fail
      refine (T2.out _).mono ?_
      rintro e w' ⟨rfl, rfl⟩
      go_wp2_with fail
      refine (ST.out _).mono ?_
      rintro e w' ⟨rfl, rfl⟩
      go_wp2_with fail
      refine (BL.out _).mono ?_
      rintro e w' ⟨rfl, rfl⟩
      go_wp2_with fail
      refine (RB.out _).mono ?_
      rintro e w' ⟨rfl, rfl⟩
      go_wp2_with fail
      refine (same_nil _ _ _ _ _).mono ?_
      rintro e w5 ⟨rfl, hb5⟩
      have HB5 := Lib.hid hb5
      clear hb5
      go_wp2_with fail
      refine (awake_any _).mono ?_
      rintro e w6 ⟨rfl, hb6⟩
      have HB6 := Lib.hid hb6
      clear hb6
      go_wp2_with fail
      go_ret
      exact ⟨rfl, HB5.out.trans (HB6.out.mono HB5.out.size)⟩
    · have ST := Lib.hid (fun w => stretch_no hsm w)
      have hc : n < 1 ∨ (1 ≤ n ∧ a < 0) ∨ (1 ≤ n ∧ 0 ≤ a ∧ 4096 < a) ∨ (1 ≤ n ∧ 0 ≤ a ∧ a ≤ 4096 ∧ 4096 - a < n) := by unfold Some at hsm; omega
      clear hsm
      rcases hc with h1 | ⟨h1, h2⟩ | ⟨h1, h2, h3⟩ | ⟨h1, h2, h3, h4⟩
      all_goals
        try have hd : decide (n ≤ 4096 - a) = false := by (simp; omega)
        go_enter Try.func3, Try.ntmps3
        go_wp2_with fail
        refine (S1.out _).mono ?_
        rintro e w' ⟨rfl, rfl⟩
        go_wp2_with fail
        refine (S2.out _).mono ?_
        rintro e w' ⟨rfl, rfl⟩
        go_wp2_with fail
        refine (T1.out _).mono ?_
        rintro e w' ⟨rfl, rfl⟩
        go_wp2_with fail
        refine (T2.out _).mono ?_
        rintro e w' ⟨rfl, rfl⟩
        go_wp2_with fail
        refine (ST.out _).mono ?_
        rintro e w' ⟨rfl, rfl⟩
        go_wp2_with fail
        refine (BL.out _).mono ?_
        rintro e w' ⟨rfl, rfl⟩
        go_wp2_with fail
        refine (RB.out _).mono ?_
        rintro e w' ⟨rfl, rfl⟩
        go_wp2_with fail
        refine (same_nil _ _ _ _ _).mono ?_
        rintro e w5 ⟨rfl, hb5⟩
        have HB5 := Lib.hid hb5
        clear hb5
        go_wp2_with fail
        refine (awake_any _).mono ?_
        rintro e w6 ⟨rfl, hb6⟩
        have HB6 := Lib.hid hb6
        clear hb6
        go_wp2_with fail
        go_ret
        exact ⟨rfl, HB5.out.trans (HB6.out.mono HB5.out.size)⟩
end Go.Proofs.Ytndfkpajojbfkaa.Ck
