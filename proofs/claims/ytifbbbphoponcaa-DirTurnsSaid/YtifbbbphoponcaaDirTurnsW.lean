/-
  'DirTurns' walked: entries come and go, as the document has it.
-/
import Derived.Test.YtifbbbphoponcaaDir13
namespace Go.Proofs.Ytifbbbphoponcaa.Dr
open Go.RowKit Wd Wi We
set_option linter.unusedVariables false
set_option linter.unusedSimpArgs false
theorem addV_len (l : List En) (x : En) : (addV l x).1.length ≤ l.length + 1 := by
  unfold addV
  split
  · simp
  · split
    · simp
    · split
      · simp
      · have := pos_le l x.1
        simp [ins]
        omega
theorem remV_len (l : List En) (s : ByteArray) : (remV l s).1.length ≤ l.length := by
  unfold remV
  split
  · simp [del]
    omega
  · simp
set_option maxRecDepth 100000 in
set_option maxHeartbeats 3200000 in
theorem turns_walk (A : Option Addr) (l : List En) (c : Nat) (x : En) (s : ByteArray) (w : World) (hs : Sl w w.heap.size 2 A l.length (ecs l)) (hc : l.length ≤ c) (hk : l.length ≤ 17592186044416) (hg : ∀ x ∈ l, goodE x) (hx : goodE x) (hsz : s.size ≤ 140737488351232) :
    Calls Try.prog 7 #[.slice A l.length c, ev x, .string s] w fun e w' => e = .returned (.bool true) ∧ Below w.heap.size w w' := by
  have FEW := Lib.hid (fun w hs => few_any A l c w hs hg hk)
  have RCK := Lib.hid (fun w hs => rcheck_any A l c w hs hg hk)
  have HS := Lib.hid hs
  have HG := Lib.hid hg
  have HX := Lib.hid hx
  have HW0 := Lib.hid (range_new w x 40)
  have hn0 : (0 : Int) ≤ (x.1.size : Int) := by omega
  have hn1 : (x.1.size : Int) ≤ 9223372036854775807 := by have := hx.1; omega
  have HBA : Hid (Below w.heap.size w (w.alloc (Obj.cells #[Value.string x.1, Value.int .i64 x.2] 40))) := Lib.hid ((Below.refl _ _).alloc (Nat.le_refl _) _)
  have HSA := Lib.hid (hs.on (Nat.le_refl _) HBA.out)
  unfold ev
  cases hf : fewB l
  · rw [hf] at FEW
    clear hf hs hg hx
    go_enter Try.func7, Try.ntmps7
    go_wp2_with fail
    refine (FEW.out _ HSA.out).mono ?_
    rintro e w' ⟨rfl, rfl⟩
    go_wp2_with fail
    refine (awake_any _).mono ?_
    rintro e w9 ⟨rfl, hb9⟩
    have HB9 := Lib.hid (HBA.out.trans (Below.mono hb9 HBA.out.size))
    go_wp2_with fail
    go_ret
    exact ⟨rfl, HB9.out⟩
  · have hl80 : l.length ≤ 80 := by
      unfold fewB at hf
      simp only [Bool.and_eq_true, decide_eq_true_eq] at hf
      exact hf.1
    rw [hf] at FEW
    clear hf hs hg hx
    cases hch : checkB l
    · rw [hch] at RCK
      clear hch
      go_enter Try.func7, Try.ntmps7
      go_wp2_with fail
      refine (FEW.out _ HSA.out).mono ?_
      rintro e w' ⟨rfl, rfl⟩
      go_wp2_with fail
      refine (RCK.out _ HSA.out).mono ?_
      rintro e w1 ⟨rfl, hb1⟩
      have HB1 := Lib.hid (HBA.out.trans (Below.mono hb1 HBA.out.size))
      have HR1 := Lib.hid (range_keep HW0.out (hb1.block w.heap.size (by simp)))
      have hrn1 := range_name HR1.out
      have hre1 := range_ino HR1.out
      clear hb1
      go_wp2_with fail
      refine (awake_any _).mono ?_
      rintro e w9 ⟨rfl, hb9⟩
      have HB9 := Lib.hid (HB1.out.trans (Below.mono hb9 HB1.out.size))
      go_wp2_with fail
      go_ret
      exact ⟨rfl, HB9.out⟩
    · have HSRT := Lib.hid (okTo_srt (check_parts hch).1)
      have HMAY := Lib.hid (okTo_may (check_parts hch).1)
      have hl64 : l.length ≤ 64 := (check_parts hch).2
      rw [hch] at RCK
      clear hch
      by_cases hbig : 300 < x.1.size
      · have hbigI : (300 : Int) < (x.1.size : Int) := by omega
        go_enter Try.func7, Try.ntmps7
        go_wp2_with fail
        refine (FEW.out _ HSA.out).mono ?_
        rintro e w' ⟨rfl, rfl⟩
        go_wp2_with fail
        refine (RCK.out _ HSA.out).mono ?_
        rintro e w1 ⟨rfl, hb1⟩
        have HB1 := Lib.hid (HBA.out.trans (Below.mono hb1 HBA.out.size))
        have HR1 := Lib.hid (range_keep HW0.out (hb1.block w.heap.size (by simp)))
        have hrn1 := range_name HR1.out
        have hre1 := range_ino HR1.out
        clear hb1
        go_wp2_with fail
        refine (awake_any _).mono ?_
        rintro e w9 ⟨rfl, hb9⟩
        have HB9 := Lib.hid (HB1.out.trans (Below.mono hb9 HB1.out.size))
        go_wp2_with fail
        go_ret
        exact ⟨rfl, HB9.out⟩
      · have hbigI : (x.1.size : Int) ≤ 300 := by omega
        have ADD := Lib.hid (fun A c w hs hc => add_any A l c x w hs hc HSRT.out (by omega) HX.out)
        have RADD := Lib.hid (fun A c w hs hc => radd_any A l c x w hs hc HSRT.out (by omega) HX.out)
        have REM := Lib.hid (fun A c w hs hc => remove_any A l c s w hs hc HSRT.out (by omega))
        have RREM := Lib.hid (fun A c w hs hc => rremove_any A l c s w hs hc HSRT.out (by omega))
        have hvl := addV_len l x
        have hul := remV_len l s
        generalize addV l x = V at *
        generalize remV l s = U at *
        obtain ⟨vl, vz⟩ := V
        obtain ⟨ul, uz⟩ := U
        dsimp only at hvl hul
        have hvb : vl.length ≤ 17592186044416 := by omega
        have hub : ul.length ≤ 17592186044416 := by omega
        clear hvl hul
        unfold ResA ev at ADD RADD
        unfold ResA at REM RREM
        dsimp only at ADD RADD REM RREM
        go_enter Try.func7, Try.ntmps7
        go_wp2_with fail
        refine (FEW.out _ HSA.out).mono ?_
        rintro e w' ⟨rfl, rfl⟩
        go_wp2_with fail
        refine (RCK.out _ HSA.out).mono ?_
        rintro e w1 ⟨rfl, hb1⟩
        have HB1 := Lib.hid (HBA.out.trans (Below.mono hb1 HBA.out.size))
        have HR1 := Lib.hid (range_keep HW0.out (hb1.block w.heap.size (by simp)))
        have hrn1 := range_name HR1.out
        have hre1 := range_ino HR1.out
        clear hb1
        go_wp2_with fail
        have HSL := Lib.hid (HS.out.on (Nat.le_refl _) HB1.out)
        have HB0 := Lib.hid HB1.out
        go_wp2_with fail
        refine (entries_any A l c w1 HSL.out (by omega)).mono ?_
        rintro e W1 ⟨A2, c2, rfl, hs2, hc2, hm2, hb1⟩
        have HRB1 := Lib.hid (range_keep HR1.out (hb1.block w.heap.size (World.block_lt_of_cell? _ _ (range_name HR1.out))))
        have hrn11 := range_name HRB1.out
        have hre11 := range_ino HRB1.out
        have M_1 := Lib.hid hs2
        have L_1 := Lib.hid (HSL.out.on (Nat.le_refl _) hb1)
        have HB1 := Lib.hid (HB0.out.trans (Below.mono hb1 HB0.out.size))
        clear hb1
        clear hrn1 hre1 HR1
        go_wp2_with ((with_reducible show wpList _ _ _ (⟨some 35, _, _, _, _, _⟩ :: _) _ _); refine wpList_load_ent rfl _ rfl rfl HRB1.out ?_)
        refine (ADD.out _ _ _ M_1.out hc2).mono ?_
        rintro e W2 ⟨A3, c3, rfl, hs3, hc3, hm3, hb2⟩
        have HRB2 := Lib.hid (range_keep HRB1.out (hb2.block w.heap.size (World.block_lt_of_cell? _ _ (range_name HRB1.out))))
        have hrn12 := range_name HRB2.out
        have hre12 := range_ino HRB2.out
        have V1_2 := Lib.hid hs3
        have L_2 := Lib.hid (L_1.out.on (Nat.le_refl _) hb2)
        have M_2 := Lib.hid (M_1.out.on (Nat.le_refl _) hb2)
        have HB2 := Lib.hid (HB1.out.trans (Below.mono hb2 HB1.out.size))
        clear hb2
        clear hrn11 hre11 HRB1
        go_wp2_with ((with_reducible show wpList _ _ _ (⟨some 41, _, _, _, _, _⟩ :: _) _ _); refine wpList_load_ent rfl _ rfl rfl HRB2.out ?_)
        refine (RADD.out _ _ _ L_2.out hc).mono ?_
        rintro e W3 ⟨A4, c4, rfl, hs4, hc4, hm4, hb3⟩
        have HRB3 := Lib.hid (range_keep HRB2.out (hb3.block w.heap.size (World.block_lt_of_cell? _ _ (range_name HRB2.out))))
        have hrn13 := range_name HRB3.out
        have hre13 := range_ino HRB3.out
        have V2_3 := Lib.hid hs4
        have L_3 := Lib.hid (L_2.out.on (Nat.le_refl _) hb3)
        have M_3 := Lib.hid (M_2.out.on (Nat.le_refl _) hb3)
        have V1_3 := Lib.hid (V1_2.out.on (Nat.le_refl _) hb3)
        have HB3 := Lib.hid (HB2.out.trans (Below.mono hb3 HB2.out.size))
        clear hb3
        clear hrn12 hre12 HRB2
        go_wp2_with fail
        refine (REM.out _ _ _ M_3.out hc2).mono ?_
        rintro e W4 ⟨A5, c5, rfl, hs5, hc5, hm5, hb4⟩
        have HRB4 := Lib.hid (range_keep HRB3.out (hb4.block w.heap.size (World.block_lt_of_cell? _ _ (range_name HRB3.out))))
        have hrn14 := range_name HRB4.out
        have hre14 := range_ino HRB4.out
        have U1_4 := Lib.hid hs5
        have L_4 := Lib.hid (L_3.out.on (Nat.le_refl _) hb4)
        have M_4 := Lib.hid (M_3.out.on (Nat.le_refl _) hb4)
        have V1_4 := Lib.hid (V1_3.out.on (Nat.le_refl _) hb4)
        have V2_4 := Lib.hid (V2_3.out.on (Nat.le_refl _) hb4)
        have HB4 := Lib.hid (HB3.out.trans (Below.mono hb4 HB3.out.size))
        clear hb4
        clear hrn13 hre13 HRB3
        go_wp2_with fail
        refine (RREM.out _ _ _ L_4.out hc).mono ?_
        rintro e W5 ⟨A6, c6, rfl, hs6, hc6, hm6, hb5⟩
        have HRB5 := Lib.hid (range_keep HRB4.out (hb5.block w.heap.size (World.block_lt_of_cell? _ _ (range_name HRB4.out))))
        have hrn15 := range_name HRB5.out
        have hre15 := range_ino HRB5.out
        have U2_5 := Lib.hid hs6
        have L_5 := Lib.hid (L_4.out.on (Nat.le_refl _) hb5)
        have M_5 := Lib.hid (M_4.out.on (Nat.le_refl _) hb5)
        have V1_5 := Lib.hid (V1_4.out.on (Nat.le_refl _) hb5)
        have V2_5 := Lib.hid (V2_4.out.on (Nat.le_refl _) hb5)
        have U1_5 := Lib.hid (U1_4.out.on (Nat.le_refl _) hb5)
        have HB5 := Lib.hid (HB4.out.trans (Below.mono hb5 HB4.out.size))
        clear hb5
        clear hrn14 hre14 HRB4
        go_wp2_with fail
        refine (same_any _ _ vl _ _ _ V1_5.out V2_5.out hvb).mono ?_
        rintro e W6 ⟨rfl, hb6⟩
        have HRB6 := Lib.hid (range_keep HRB5.out (hb6.block w.heap.size (World.block_lt_of_cell? _ _ (range_name HRB5.out))))
        have hrn16 := range_name HRB6.out
        have hre16 := range_ino HRB6.out
        have L_6 := Lib.hid (L_5.out.on (Nat.le_refl _) hb6)
        have M_6 := Lib.hid (M_5.out.on (Nat.le_refl _) hb6)
        have V1_6 := Lib.hid (V1_5.out.on (Nat.le_refl _) hb6)
        have V2_6 := Lib.hid (V2_5.out.on (Nat.le_refl _) hb6)
        have U1_6 := Lib.hid (U1_5.out.on (Nat.le_refl _) hb6)
        have U2_6 := Lib.hid (U2_5.out.on (Nat.le_refl _) hb6)
        have HB6 := Lib.hid (HB5.out.trans (Below.mono hb6 HB5.out.size))
        clear hb6
        clear hrn15 hre15 HRB5
        go_wp2_with fail
        refine (same_any _ _ ul _ _ _ U1_6.out U2_6.out hub).mono ?_
        rintro e W7 ⟨rfl, hb7⟩
        have HRB7 := Lib.hid (range_keep HRB6.out (hb7.block w.heap.size (World.block_lt_of_cell? _ _ (range_name HRB6.out))))
        have hrn17 := range_name HRB7.out
        have hre17 := range_ino HRB7.out
        have L_7 := Lib.hid (L_6.out.on (Nat.le_refl _) hb7)
        have M_7 := Lib.hid (M_6.out.on (Nat.le_refl _) hb7)
        have V1_7 := Lib.hid (V1_6.out.on (Nat.le_refl _) hb7)
        have V2_7 := Lib.hid (V2_6.out.on (Nat.le_refl _) hb7)
        have U1_7 := Lib.hid (U1_6.out.on (Nat.le_refl _) hb7)
        have U2_7 := Lib.hid (U2_6.out.on (Nat.le_refl _) hb7)
        have HB7 := Lib.hid (HB6.out.trans (Below.mono hb7 HB6.out.size))
        clear hb7
        clear hrn16 hre16 HRB6
        go_wp2_with fail
        refine (same_any _ _ l _ _ _ M_7.out L_7.out hk).mono ?_
        rintro e W8 ⟨rfl, hb8⟩
        have HRB8 := Lib.hid (range_keep HRB7.out (hb8.block w.heap.size (World.block_lt_of_cell? _ _ (range_name HRB7.out))))
        have hrn18 := range_name HRB8.out
        have hre18 := range_ino HRB8.out
        have L_8 := Lib.hid (L_7.out.on (Nat.le_refl _) hb8)
        have M_8 := Lib.hid (M_7.out.on (Nat.le_refl _) hb8)
        have V1_8 := Lib.hid (V1_7.out.on (Nat.le_refl _) hb8)
        have V2_8 := Lib.hid (V2_7.out.on (Nat.le_refl _) hb8)
        have U1_8 := Lib.hid (U1_7.out.on (Nat.le_refl _) hb8)
        have U2_8 := Lib.hid (U2_7.out.on (Nat.le_refl _) hb8)
        have HB8 := Lib.hid (HB7.out.trans (Below.mono hb8 HB7.out.size))
        clear hb8
        clear hrn17 hre17 HRB7
        go_wp2_with fail
        refine (awake_any _).mono ?_
        rintro e W9 ⟨rfl, hb9⟩
        have HRB9 := Lib.hid (range_keep HRB8.out (hb9.block w.heap.size (World.block_lt_of_cell? _ _ (range_name HRB8.out))))
        have hrn19 := range_name HRB9.out
        have hre19 := range_ino HRB9.out
        have L_9 := Lib.hid (L_8.out.on (Nat.le_refl _) hb9)
        have M_9 := Lib.hid (M_8.out.on (Nat.le_refl _) hb9)
        have V1_9 := Lib.hid (V1_8.out.on (Nat.le_refl _) hb9)
        have V2_9 := Lib.hid (V2_8.out.on (Nat.le_refl _) hb9)
        have U1_9 := Lib.hid (U1_8.out.on (Nat.le_refl _) hb9)
        have U2_9 := Lib.hid (U2_8.out.on (Nat.le_refl _) hb9)
        have HB9 := Lib.hid (HB8.out.trans (Below.mono hb9 HB8.out.size))
        clear hb9
        clear hrn18 hre18 HRB8
        go_wp2_with fail
        go_ret
        exact ⟨rfl, HB9.out⟩
end Go.Proofs.Ytifbbbphoponcaa.Dr
