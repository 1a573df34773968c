/-
  'ChunkFills' walked: any block, any write.
-/
import Derived.Test.YtndfkpajojbfkaaChunk5
namespace Go.Proofs.Ytndfkpajojbfkaa.Ck
open Go.RowKit Wd Is Sp Fl Ga By
set_option linter.unusedVariables false
attribute [local go_sem] str_toList str_append str_size

set_option maxRecDepth 100000 in
set_option maxHeartbeats 3200000 in
theorem fills_plain (Ao : Option Addr) (old : List UInt8) (co : Nat) (blk s a : Int) (Ad : Option Addr) (d : List UInt8) (cd : Nat) (w : World)
    (ho : Sl w w.heap.size 1 Ao old.length (old.map bv)) (hco : old.length ≤ co) (hod : old.length ≤ 140737488355328)
    (hb1 : -9223372036854775808 ≤ blk) (hb2 : blk ≤ 9223372036854775807) (hs1 : -9223372036854775808 ≤ s) (hs2 : s ≤ 9223372036854775807) (ha1 : -9223372036854775808 ≤ a) (ha2 : a ≤ 9223372036854775807)
    (hd : Sl w w.heap.size 1 Ad d.length (d.map bv)) (hcd : d.length ≤ cd) (hdd : d.length ≤ 140737488355328) :
    Calls Try.prog 5 #[.slice Ao old.length co, .bool false, .int .i64 blk, .int .i64 s, .int .i64 a, .slice Ad d.length cd] w fun e w' => e = .returned (.bool true) ∧ Below w.heap.size w w' := by
  have HO0 := Lib.hid ho
  have HD0 := Lib.hid hd
  have BY := Lib.hid (fun A l c w hs hc hk => bytes_any A l c w hs hc hk)
  clear ho hd hb1 hb2 hs1 hs2 ha1 ha2
  by_cases h300 : old.length ≤ 300
  · have h300I : (old.length : Int) ≤ 300 := by omega
    by_cases h600 : d.length ≤ 600
    · have h600I : (d.length : Int) ≤ 600 := by omega
      go_enter Try.func5, Try.ntmps5
      go_wp2_with fail
      refine (BY.out _ _ _ _ HO0.out hco (by omega)).mono ?_
      rintro e w1 ⟨A1, c1, rfl, hm1, hb1⟩
      have HBA := Lib.hid hb1
      obtain ⟨_, _, hv1, hl1, _, hs1⟩ := hm1.form
      injection hv1 with e1 _ e2
      subst e1; subst e2
      have HS1 := Lib.hid hs1
      have SRC : Hid (∀ w', Below w1.heap.size w1 w' → Sl w' w'.heap.size 1 A1 old.length (old.map bv)) := Lib.hid fun w' hk => hs1.on (Nat.le_refl _) hk
      clear hm1 hb1 hs1
      go_wp2_with fail
      by_cases hy : May s a d.length ∧ (old.length = 0 ∨ old.length = 128) ∧ hasB [strP a d.length] blk = true
      · have HY := Lib.hid hy
        clear hy
        refine (BY.out _ _ _ _ HS1.out hl1 (by omega)).mono ?_
        rintro e w3 ⟨A3, c3, rfl, hm3, hb3⟩
        have HM3 := Lib.hid hm3
        have HB3 := Lib.hid (HBA.out.trans (hb3.mono HBA.out.size))
        have HB3' := Lib.hid hb3
        clear hm3 hb3
        go_wp2_with fail
        refine (BY.out _ _ _ _ (HD0.out.on (Nat.le_refl _) HB3.out) hcd (by omega)).mono ?_
        rintro e w4 ⟨A4, c4, rfl, hm4, hb4⟩
        have HM4 := Lib.hid hm4
        have HB4 := Lib.hid (HB3.out.trans (hb4.mono HB3.out.size))
        have HB4' := Lib.hid hb4
        clear hm4 hb4
        obtain ⟨_, _, hv3, hl3, _, hs3⟩ := HM3.out.form
        injection hv3 with e1 _ e2
        subst e1; subst e2
        obtain ⟨_, _, hv4, hl4, _, hs4⟩ := HM4.out.form
        injection hv4 with e1 _ e2
        subst e1; subst e2
        have HS3 := Lib.hid (hs3.on (Nat.le_refl _) HB4'.out)
        have HS4 := Lib.hid hs4
        clear hs3 hs4 hl3 hl4
        go_wp2_with fail
        refine (fill_yes A3 A4 old d c3 c4 blk s a w4 HS3.out HS4.out HY.out.1 HY.out.2.1 HY.out.2.2).mono ?_
        rintro e w5 ⟨g5, rfl, ho5, hb5⟩
        have HB5' := Lib.hid hb5
        have HO5 := Lib.hid ho5
        have HB5 := Lib.hid (HB4.out.trans (hb5.mono HB4.out.size))
        clear ho5 hb5
        go_wp2_with fail
        refine (rfill_yes _ Ad old d _ cd blk s a w5 (SRC.out _ (HB3'.out.trans (HB4'.out.mono HB3'.out.size) |>.trans (HB5'.out.mono (Nat.le_trans HB3'.out.size HB4'.out.size)))) (HD0.out.on (Nat.le_refl _) HB5.out) HY.out.1 HY.out.2.1 HY.out.2.2).mono ?_
        rintro e w6 ⟨g6, rfl, ho6, hb6⟩
        have HO6 := Lib.hid ho6
        have HB6 := Lib.hid (HB5.out.trans (hb6.mono HB5.out.size))
        have hg5 := own_ge HO5.out
        have hs5 := (Sl.own HO5.out).on (Nat.le_refl _) hb6
        have HS5 := Lib.hid hs5
        clear ho6 hb6 hs5
        generalize fillL old d (blk * 128).toNat s.toNat a.toNat = RR at *
        go_wp2_with (first
          | ((with_reducible show wpList _ _ _ (⟨some 55, _, _, _, _, _⟩ :: _) _ _); refine wpList_convert_sl rfl _ _ _ _ rfl Try.underlying36 Try.underlying5 Try.underlying9 _ _ _ RR rfl HS5.out rfl ?_)
          | ((with_reducible show wpList _ _ _ (⟨some 57, _, _, _, _, _⟩ :: _) _ _); refine wpList_convert_sl rfl _ _ _ _ rfl Try.underlying36 Try.underlying5 Try.underlying9 _ _ _ RR rfl (Sl.own HO6.out) rfl ?_))
        refine (awake_any _).mono ?_
        rintro e w7 ⟨rfl, hb7⟩
        have HB7 := Lib.hid hb7
        clear hb7
        go_wp2_with fail
        go_ret
        exact ⟨rfl, HB6.out.trans (HB7.out.mono HB6.out.size)⟩
      · have HY := Lib.hid hy
        clear hy
        refine (BY.out _ _ _ _ HS1.out hl1 (by omega)).mono ?_
        rintro e w3 ⟨A3, c3, rfl, hm3, hb3⟩
        have HM3 := Lib.hid hm3
        have HB3 := Lib.hid (HBA.out.trans (hb3.mono HBA.out.size))
        have HB3' := Lib.hid hb3
        clear hm3 hb3
        go_wp2_with fail
        refine (BY.out _ _ _ _ (HD0.out.on (Nat.le_refl _) HB3.out) hcd (by omega)).mono ?_
        rintro e w4 ⟨A4, c4, rfl, hm4, hb4⟩
        have HM4 := Lib.hid hm4
        have HB4 := Lib.hid (HB3.out.trans (hb4.mono HB3.out.size))
        have HB4' := Lib.hid hb4
        clear hm4 hb4
        obtain ⟨_, _, hv3, hl3, _, hs3⟩ := HM3.out.form
        injection hv3 with e1 _ e2
        subst e1; subst e2
        obtain ⟨_, _, hv4, hl4, _, hs4⟩ := HM4.out.form
        injection hv4 with e1 _ e2
        subst e1; subst e2
        have HS3 := Lib.hid (hs3.on (Nat.le_refl _) HB4'.out)
        have HS4 := Lib.hid hs4
        clear hs3 hs4 hl3 hl4
        go_wp2_with fail
        refine (fill_no A3 A4 old d c3 c4 blk s a w4 HS3.out HS4.out (by omega) (by omega) HY.out).mono ?_
        rintro e w5 ⟨rfl, hb5⟩
        have HB5' := Lib.hid hb5
        have HB5 := Lib.hid (HB4.out.trans (hb5.mono HB4.out.size))
        clear hb5
        go_wp2_with fail
        refine (rfill_no _ Ad old d _ cd blk s a w5 (SRC.out _ (HB3'.out.trans (HB4'.out.mono HB3'.out.size) |>.trans (HB5'.out.mono (Nat.le_trans HB3'.out.size HB4'.out.size)))) (HD0.out.on (Nat.le_refl _) HB5.out) (by omega) (by omega) HY.out).mono ?_
        rintro e w6 ⟨rfl, hb6⟩
        have HB6 := Lib.hid (HB5.out.trans (hb6.mono HB5.out.size))
        clear hb6
        go_wp2_with (first
          | ((with_reducible show wpList _ _ _ (⟨some 55, _, _, _, _, _⟩ :: _) _ _); refine wpList_convert_sl rfl _ _ _ _ rfl Try.underlying36 Try.underlying5 Try.underlying9 _ _ _ [] rfl (Sl.nil (w := w6) (B := 0) (size := 1) none) rfl ?_)
          | ((with_reducible show wpList _ _ _ (⟨some 57, _, _, _, _, _⟩ :: _) _ _); refine wpList_convert_sl rfl _ _ _ _ rfl Try.underlying36 Try.underlying5 Try.underlying9 _ _ _ [] rfl (Sl.nil (w := w6) (B := 0) (size := 1) none) rfl ?_))
        refine (awake_any _).mono ?_
        rintro e w7 ⟨rfl, hb7⟩
        have HB7 := Lib.hid hb7
        clear hb7
        go_wp2_with fail
        go_ret
        exact ⟨rfl, HB6.out.trans (HB7.out.mono HB6.out.size)⟩
    · have h600I : (600 : Int) < (d.length : Int) := by omega
      go_enter Try.func5, Try.ntmps5
      go_wp2_with fail
      refine (awake_any _).mono ?_
      rintro e w7 ⟨rfl, hb7⟩
      have HB7 := Lib.hid hb7
      clear hb7
      go_wp2_with fail
      go_ret
      exact ⟨rfl, HB7.out⟩
  · have h300I : (300 : Int) < (old.length : Int) := by omega
    go_enter Try.func5, Try.ntmps5
    go_wp2_with fail
    refine (awake_any _).mono ?_
    rintro e w7 ⟨rfl, hb7⟩
    have HB7 := Lib.hid hb7
    clear hb7
    go_wp2_with fail
    go_ret
    exact ⟨rfl, HB7.out⟩
set_option maxRecDepth 100000 in
set_option maxHeartbeats 3200000 in
theorem fills_full (Ao : Option Addr) (old : List UInt8) (co : Nat) (blk s a : Int) (Ad : Option Addr) (d : List UInt8) (cd : Nat) (w : World)
    (ho : Sl w w.heap.size 1 Ao old.length (old.map bv)) (hco : old.length ≤ co) (hod : old.length ≤ 140737488355328)
    (hb1 : -9223372036854775808 ≤ blk) (hb2 : blk ≤ 9223372036854775807) (hs1 : -9223372036854775808 ≤ s) (hs2 : s ≤ 9223372036854775807) (ha1 : -9223372036854775808 ≤ a) (ha2 : a ≤ 9223372036854775807)
    (hd : Sl w w.heap.size 1 Ad d.length (d.map bv)) (hcd : d.length ≤ cd) (hdd : d.length ≤ 140737488355328) :
    Calls Try.prog 5 #[.slice Ao old.length co, .bool true, .int .i64 blk, .int .i64 s, .int .i64 a, .slice Ad d.length cd] w fun e w' => e = .returned (.bool true) ∧ Below w.heap.size w w' := by
  have HO0 := Lib.hid ho
  have HD0 := Lib.hid hd
  have BY := Lib.hid (fun A l c w hs hc hk => bytes_any A l c w hs hc hk)
  clear ho hd hb1 hb2 hs1 hs2 ha1 ha2
  by_cases h300 : old.length ≤ 300
  · have h300I : (old.length : Int) ≤ 300 := by omega
    by_cases h600 : d.length ≤ 600
    · have h600I : (d.length : Int) ≤ 600 := by omega
      have hov : (over old (List.replicate 128 0)).length = 128 := by rw [over_len]; simp
      obtain ⟨lo, hlo⟩ : ∃ lo, lo = over old (List.replicate 128 0) := ⟨_, rfl⟩
      rw [← hlo] at hov
      have HLO := Lib.hid hlo
      clear hlo
      go_enter Try.func5, Try.ntmps5
      go_wp2_with fail
      refine (BY.out _ _ _ _ HO0.out hco (by omega)).mono ?_
      rintro e w0 ⟨A0, c0, rfl, hm0, hb0⟩
      have HB0 := Lib.hid hb0
      have hz0 := hb0.size
      clear hm0 hb0
      go_wp2_with (first
        | (refine wpList_make_bytes rfl _ _ rfl 128 (by decide) rfl rfl ?_; intro w2 hmk hmb hmlt)
        | (refine wpList_copy_bytes rfl _ _ rfl (M := List.replicate 128 0) (l := old) (by simp) rfl rfl hmk ((HO0.out.on (Nat.le_refl _) HB0.out).on (Nat.le_refl _) hmb) ?_; intro w1 v1 hcp hon))
      have HBA := Lib.hid (hon.below (HB0.out.trans (hmb.mono hz0)) hz0)
      rw [← HLO.out] at hcp
      have hs1 := Sl.own hcp
      have hl1 : lo.length ≤ 128 := by omega
      have e128 : 128 = lo.length := hov.symm
      have hs1' : Sl w1 w1.heap.size 1 (some ⟨w0.heap.size, 0, none⟩) lo.length (lo.map bv) := by rw [hov]; exact hs1
      have HS1 := Lib.hid hs1'
      have SRC : Hid (∀ w', Below w1.heap.size w1 w' → Sl w' w'.heap.size 1 (some ⟨w0.heap.size, 0, none⟩) lo.length (lo.map bv)) := Lib.hid fun w' hk => hs1'.on (Nat.le_refl _) hk
      have BY2 : Hid (∀ w', Sl w' w'.heap.size 1 (some ⟨w0.heap.size, 0, none⟩) lo.length (lo.map bv) → Calls Try.prog 18 #[.slice (some ⟨w0.heap.size, 0, none⟩) 128 128] w' (ResM w' lo)) := by
        refine Lib.hid fun w' hs => ?_
        have := bytes_any (some ⟨w0.heap.size, 0, none⟩) lo 128 w' hs hl1 (by omega)
        rwa [hov] at this
      have RY : Hid (∀ w', Sl w' w'.heap.size 1 (some ⟨w0.heap.size, 0, none⟩) lo.length (lo.map bv) → Sl w' w'.heap.size 1 Ad d.length (d.map bv) → May s a d.length → (lo.length = 0 ∨ lo.length = 128) → hasB [strP a d.length] blk = true →
          Calls Try.prog 20 #[.slice (some ⟨w0.heap.size, 0, none⟩) 128 128, .int .i64 blk, .int .i64 s, .int .i64 a, .slice Ad d.length cd] w' (FillR w' (fillL lo d (blk * 128).toNat s.toNat a.toNat))) := by
        refine Lib.hid fun w' h1 h2 h3 h4 h5 => ?_
        have := rfill_yes (some ⟨w0.heap.size, 0, none⟩) Ad lo d 128 cd blk s a w' h1 h2 h3 h4 h5
        rwa [hov] at this
      have RN : Hid (∀ w', Sl w' w'.heap.size 1 (some ⟨w0.heap.size, 0, none⟩) lo.length (lo.map bv) → Sl w' w'.heap.size 1 Ad d.length (d.map bv) → ¬ (May s a d.length ∧ (lo.length = 0 ∨ lo.length = 128) ∧ hasB [strP a d.length] blk = true) →
          Calls Try.prog 20 #[.slice (some ⟨w0.heap.size, 0, none⟩) 128 128, .int .i64 blk, .int .i64 s, .int .i64 a, .slice Ad d.length cd] w' fun e w'' => e = .returned (.tuple #[.slice none 0 0, .bool false]) ∧ Below w'.heap.size w' w'') := by
        refine Lib.hid fun w' h1 h2 h3 => ?_
        have := rfill_no (some ⟨w0.heap.size, 0, none⟩) Ad lo d 128 cd blk s a w' h1 h2 (by omega) hdd h3
        rwa [hov] at this
      clear hs1 hs1' hcp hon hmk hmb e128 hov
      generalize w0.heap.size = g0 at *
      go_wp2_with fail
      by_cases hy : May s a d.length ∧ (lo.length = 0 ∨ lo.length = 128) ∧ hasB [strP a d.length] blk = true
      · have HY := Lib.hid hy
        clear hy
        refine (BY2.out _ HS1.out).mono ?_
        rintro e w3 ⟨A3, c3, rfl, hm3, hb3⟩
        have HM3 := Lib.hid hm3
        have HB3 := Lib.hid (HBA.out.trans (hb3.mono HBA.out.size))
        have HB3' := Lib.hid hb3
        clear hm3 hb3
        go_wp2_with fail
        refine (BY.out _ _ _ _ (HD0.out.on (Nat.le_refl _) HB3.out) hcd (by omega)).mono ?_
        rintro e w4 ⟨A4, c4, rfl, hm4, hb4⟩
        have HM4 := Lib.hid hm4
        have HB4 := Lib.hid (HB3.out.trans (hb4.mono HB3.out.size))
        have HB4' := Lib.hid hb4
        clear hm4 hb4
        obtain ⟨_, _, hv3, hl3, _, hs3⟩ := HM3.out.form
        injection hv3 with e1 _ e2
        subst e1; subst e2
        obtain ⟨_, _, hv4, hl4, _, hs4⟩ := HM4.out.form
        injection hv4 with e1 _ e2
        subst e1; subst e2
        have HS3 := Lib.hid (hs3.on (Nat.le_refl _) HB4'.out)
        have HS4 := Lib.hid hs4
        clear hs3 hs4 hl3 hl4
        go_wp2_with fail
        refine (fill_yes A3 A4 lo d c3 c4 blk s a w4 HS3.out HS4.out HY.out.1 HY.out.2.1 HY.out.2.2).mono ?_
        rintro e w5 ⟨g5, rfl, ho5, hb5⟩
        have HB5' := Lib.hid hb5
        have HO5 := Lib.hid ho5
        have HB5 := Lib.hid (HB4.out.trans (hb5.mono HB4.out.size))
        clear ho5 hb5
        go_wp2_with fail
        refine (RY.out w5 (SRC.out _ (HB3'.out.trans (HB4'.out.mono HB3'.out.size) |>.trans (HB5'.out.mono (Nat.le_trans HB3'.out.size HB4'.out.size)))) (HD0.out.on (Nat.le_refl _) HB5.out) HY.out.1 HY.out.2.1 HY.out.2.2).mono ?_
        rintro e w6 ⟨g6, rfl, ho6, hb6⟩
        have HO6 := Lib.hid ho6
        have HB6 := Lib.hid (HB5.out.trans (hb6.mono HB5.out.size))
        have hg5 := own_ge HO5.out
        have hs5 := (Sl.own HO5.out).on (Nat.le_refl _) hb6
        have HS5 := Lib.hid hs5
        clear ho6 hb6 hs5
        generalize fillL lo d (blk * 128).toNat s.toNat a.toNat = RR at *
        go_wp2_with (first
          | ((with_reducible show wpList _ _ _ (⟨some 55, _, _, _, _, _⟩ :: _) _ _); refine wpList_convert_sl rfl _ _ _ _ rfl Try.underlying36 Try.underlying5 Try.underlying9 _ _ _ RR rfl HS5.out rfl ?_)
          | ((with_reducible show wpList _ _ _ (⟨some 57, _, _, _, _, _⟩ :: _) _ _); refine wpList_convert_sl rfl _ _ _ _ rfl Try.underlying36 Try.underlying5 Try.underlying9 _ _ _ RR rfl (Sl.own HO6.out) rfl ?_))
        refine (awake_any _).mono ?_
        rintro e w7 ⟨rfl, hb7⟩
        have HB7 := Lib.hid hb7
        clear hb7
        go_wp2_with fail
        go_ret
        exact ⟨rfl, HB6.out.trans (HB7.out.mono HB6.out.size)⟩
      · have HY := Lib.hid hy
        clear hy
        refine (BY2.out _ HS1.out).mono ?_
        rintro e w3 ⟨A3, c3, rfl, hm3, hb3⟩
        have HM3 := Lib.hid hm3
        have HB3 := Lib.hid (HBA.out.trans (hb3.mono HBA.out.size))
        have HB3' := Lib.hid hb3
        clear hm3 hb3
        go_wp2_with fail
        refine (BY.out _ _ _ _ (HD0.out.on (Nat.le_refl _) HB3.out) hcd (by omega)).mono ?_
        rintro e w4 ⟨A4, c4, rfl, hm4, hb4⟩
        have HM4 := Lib.hid hm4
        have HB4 := Lib.hid (HB3.out.trans (hb4.mono HB3.out.size))
        have HB4' := Lib.hid hb4
        clear hm4 hb4
        obtain ⟨_, _, hv3, hl3, _, hs3⟩ := HM3.out.form
        injection hv3 with e1 _ e2
        subst e1; subst e2
        obtain ⟨_, _, hv4, hl4, _, hs4⟩ := HM4.out.form
        injection hv4 with e1 _ e2
        subst e1; subst e2
        have HS3 := Lib.hid (hs3.on (Nat.le_refl _) HB4'.out)
        have HS4 := Lib.hid hs4
        clear hs3 hs4 hl3 hl4
        go_wp2_with fail
        refine (fill_no A3 A4 lo d c3 c4 blk s a w4 HS3.out HS4.out (by omega) (by omega) HY.out).mono ?_
        rintro e w5 ⟨rfl, hb5⟩
        have HB5' := Lib.hid hb5
        have HB5 := Lib.hid (HB4.out.trans (hb5.mono HB4.out.size))
        clear hb5
        go_wp2_with fail
        refine (RN.out w5 (SRC.out _ (HB3'.out.trans (HB4'.out.mono HB3'.out.size) |>.trans (HB5'.out.mono (Nat.le_trans HB3'.out.size HB4'.out.size)))) (HD0.out.on (Nat.le_refl _) HB5.out) HY.out).mono ?_
        rintro e w6 ⟨rfl, hb6⟩
        have HB6 := Lib.hid (HB5.out.trans (hb6.mono HB5.out.size))
        clear hb6
        go_wp2_with (first
          | ((with_reducible show wpList _ _ _ (⟨some 55, _, _, _, _, _⟩ :: _) _ _); refine wpList_convert_sl rfl _ _ _ _ rfl Try.underlying36 Try.underlying5 Try.underlying9 _ _ _ [] rfl (Sl.nil (w := w6) (B := 0) (size := 1) none) rfl ?_)
          | ((with_reducible show wpList _ _ _ (⟨some 57, _, _, _, _, _⟩ :: _) _ _); refine wpList_convert_sl rfl _ _ _ _ rfl Try.underlying36 Try.underlying5 Try.underlying9 _ _ _ [] rfl (Sl.nil (w := w6) (B := 0) (size := 1) none) rfl ?_))
        refine (awake_any _).mono ?_
        rintro e w7 ⟨rfl, hb7⟩
        have HB7 := Lib.hid hb7
        clear hb7
        go_wp2_with fail
        go_ret
        exact ⟨rfl, HB6.out.trans (HB7.out.mono HB6.out.size)⟩
    · have h600I : (600 : Int) < (d.length : Int) := by omega
      go_enter Try.func5, Try.ntmps5
      go_wp2_with fail
      refine (awake_any _).mono ?_
      rintro e w7 ⟨rfl, hb7⟩
      have HB7 := Lib.hid hb7
      clear hb7
      go_wp2_with fail
      go_ret
      exact ⟨rfl, HB7.out⟩
  · have h300I : (300 : Int) < (old.length : Int) := by omega
    go_enter Try.func5, Try.ntmps5
    go_wp2_with fail
    refine (awake_any _).mono ?_
    rintro e w7 ⟨rfl, hb7⟩
    have HB7 := Lib.hid hb7
    clear hb7
    go_wp2_with fail
    go_ret
    exact ⟨rfl, HB7.out⟩
set_option maxRecDepth 100000 in
set_option maxHeartbeats 3200000 in
theorem fills_walk (Ao : Option Addr) (old : List UInt8) (co : Nat) (full : Bool) (blk s a : Int) (Ad : Option Addr) (d : List UInt8) (cd : Nat) (w : World)
    (ho : Sl w w.heap.size 1 Ao old.length (old.map bv)) (hco : old.length ≤ co) (hod : old.length ≤ 140737488355328)
    (hb1 : -9223372036854775808 ≤ blk) (hb2 : blk ≤ 9223372036854775807) (hs1 : -9223372036854775808 ≤ s) (hs2 : s ≤ 9223372036854775807) (ha1 : -9223372036854775808 ≤ a) (ha2 : a ≤ 9223372036854775807)
    (hd : Sl w w.heap.size 1 Ad d.length (d.map bv)) (hcd : d.length ≤ cd) (hdd : d.length ≤ 140737488355328) :
    Calls Try.prog 5 #[.slice Ao old.length co, .bool full, .int .i64 blk, .int .i64 s, .int .i64 a, .slice Ad d.length cd] w fun e w' => e = .returned (.bool true) ∧ Below w.heap.size w w' := by
  cases full
  · exact fills_plain Ao old co blk s a Ad d cd w ho hco hod hb1 hb2 hs1 hs2 ha1 ha2 hd hcd hdd
  · exact fills_full Ao old co blk s a Ad d cd w ho hco hod hb1 hb2 hs1 hs2 ha1 ha2 hd hcd hdd
end Go.Proofs.Ytndfkpajojbfkaa.Ck
