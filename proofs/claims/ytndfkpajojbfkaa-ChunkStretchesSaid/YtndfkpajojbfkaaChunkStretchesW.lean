/-
  'ChunkStretches' walked: what is touched is the stretch, block by block.
-/
import Derived.Test.YtndfkpajojbfkaaChunk3
import Derived.Test.YtndfkpajojbfkaaPlace
import Derived.Test.YtndfkpajojbfkaaRely
import Derived.IntWalk
namespace Go.Proofs.Ytndfkpajojbfkaa.Ck
open Go.RowKit Wd Is Sp Fl Ga Pl
set_option linter.unusedVariables false

set_option maxRecDepth 100000 in
set_option maxHeartbeats 1600000 in
theorem stretches_walk (s a n : Int) (w : World) (hs : -9223372036854775808 ≤ s) (hs' : s ≤ 9223372036854775807) (ha : -9223372036854775808 ≤ a) (ha' : a ≤ 9223372036854775807) (hn : -9223372036854775808 ≤ n) (hn' : n ≤ 9223372036854775807) :
    Calls Try.prog 4 #[.int .i64 s, .int .i64 a, .int .i64 n] w fun e w' => e = .returned (.bool true) ∧ Below w.heap.size w w' := by
  have P1 := Lib.hid (fun w => place_any s 4097 w (by omega) (by omega) hs hs')
  obtain ⟨p0, p1⟩ := place_bd s 4097 (by omega)
  generalize placeZ s 4097 = S at *
  obtain ⟨S, rfl⟩ := Int.eq_ofNat_of_zero_le p0
  have P2 := Lib.hid (fun w => place_any a 4097 w (by omega) (by omega) ha ha')
  obtain ⟨p2, p3⟩ := place_bd a 4097 (by omega)
  generalize placeZ a 4097 = A at *
  obtain ⟨A, rfl⟩ := Int.eq_ofNat_of_zero_le p2
  have P3 := Lib.hid (fun w => place_any n (4096 - (A : Int) + 1) w (by omega) (by omega) hn hn')
  obtain ⟨p4, p5⟩ := place_bd n (4096 - (A : Int) + 1) (by omega)
  generalize placeZ n (4096 - (A : Int) + 1) = kk at *
  obtain ⟨kk, rfl⟩ := Int.eq_ofNat_of_zero_le p4
  clear hs hs' ha ha' hn hn'
  have hmay : May (S : Int) (A : Int) (kk : Int) := by unfold May; omega
  have T1 := Lib.hid (fun w => touched_yes hmay w)
  unfold TR at T1
  have E0 := e00
  by_cases hk0 : kk = 0
  · subst hk0
    have ST := Lib.hid (fun w => stretch_no (a := (A : Int)) (n := ((0 : Nat) : Int)) (by unfold Some; omega) w)
    clear hmay
    go_enter Try.func4, Try.ntmps4
    go_wp2_with fail
    refine (P1.out _).mono ?_
    rintro e w' ⟨rfl, rfl⟩
    go_wp2_with fail
    refine (P2.out _).mono ?_
    rintro e w' ⟨rfl, rfl⟩
    go_wp2_with fail
    refine (P3.out _).mono ?_
    rintro e w' ⟨rfl, rfl⟩
    go_wp2_with fail
    refine (T1.out _).mono ?_
    rintro e w1 ⟨A1, c1, rfl, hs1, hc1, hb1⟩
    have hl0 : (touched A 0).length = 0 := by rw [touched_len]; rfl
    rw [hl0]
    have HB1 := Lib.hid hb1
    have hz1 := hb1.size
    clear hs1 hb1 hl0
    go_wp2_with fail
    refine (ST.out _).mono ?_
    rintro e w' ⟨rfl, rfl⟩
    go_wp2_with fail
    refine (awake_any _).mono ?_
    rintro e w2 ⟨rfl, hb2⟩
    have HB2 := Lib.hid hb2
    clear hb2
    go_wp2_with fail
    go_ret
    exact ⟨rfl, HB1.out.trans (HB2.out.mono hz1)⟩
  · have hk1 : (1 : Int) ≤ (kk : Int) := by omega
    have hk1b : (0 : Int) < (kk : Int) := by omega
    have hkN : 0 < kk := by omega
    have hkb : ((kk : Int) == 0) = false := by simp; omega
    have hq0 : (0 : Int) ≤ (A : Int) + (kk : Int) - 1 := by omega
    have S1 := Lib.hid (fun w => size_yes hmay w)
    obtain ⟨z, hz⟩ : ∃ z, z = sizeZ (S : Int) (A : Int) (kk : Int) := ⟨_, rfl⟩
    rw [← hz] at S1
    have hzm : z = max (S : Int) ((A : Int) + (kk : Int)) := by rw [hz]; unfold sizeZ; rw [if_neg (by omega)]
    have HZ : Hid ((if (S : Int) < (A : Int) + (kk : Int) then (A : Int) + (kk : Int) else (S : Int)) = z) := by
      show _ = _
      rw [hzm]
      split <;> omega
    have hc33 := cnt_le A kk (by omega)
    obtain ⟨q, hq⟩ : ∃ q, cnt A kk = q + 1 := ⟨cnt A kk - 1, by unfold cnt; rw [if_neg hk0]; omega⟩
    obtain ⟨f, hf⟩ : ∃ f, f = A / 128 := ⟨_, rfl⟩
    have hA128 : (A : Int) / 128 = (f : Int) := by omega
    have hcv : cnt A kk = (A + kk - 1) / 128 - A / 128 + 1 := by unfold cnt; rw [if_neg hk0]
    have hlast : ((A : Int) + (kk : Int) - 1) / 128 = (f : Int) + (q : Int) := by omega
    have hL : touched A kk = run f (q + 1) := by unfold touched; rw [hq, hf]
    rw [hL, run_len] at T1
    have ST := Lib.hid (fun w => stretch_yes (a := (A : Int)) (n := (kk : Int)) (by unfold Some; omega) w)
    rw [hA128, hlast, show (f : Int) + (q : Int) - (f : Int) + 1 = (q : Int) + 1 by omega] at ST
    have hf32 : (f : Int) ≤ 32 := by omega
    have hq32 : (q : Int) ≤ 32 := by omega
    have hf0 : (0 : Int) ≤ (f : Int) := by omega
    have hqq0 : (0 : Int) ≤ (q : Int) := by omega
    have x1 : Sm (f : Int) := by unfold Sm; omega
    have x2 : Sm ((q : Int) + 1) := by unfold Sm; omega
    have k1 := fun w => run_convert_float_int (P := Try.prog) w 30 3 .f64 .i64 (fz (f : Int)) (f : Int) (by rw [Try.underlying30]; rfl) Try.underlying3 (conv_fz x1)
    have k2 := fun w => run_convert_float_int (P := Try.prog) w 30 3 .f64 .i64 (fz ((q : Int) + 1)) ((q : Int) + 1) (by rw [Try.underlying30]; rfl) Try.underlying3 (conv_fz x2)
    obtain ⟨bz, hbz⟩ : ∃ bz, bz = blocksN z := ⟨_, rfl⟩
    obtain ⟨last, hla⟩ : ∃ last : Int, last = (f : Int) + (q : Int) := ⟨_, rfl⟩
    have hge : last + 1 ≤ bz := by
      rw [hbz, hla]
      unfold blocksN
      have : (A : Int) + (kk : Int) ≤ z := by omega
      rw [if_neg (by omega)]
      omega
    have hla32 : last ≤ 64 := by omega
    have hla0 : 0 ≤ last := by omega
    have BZ := Lib.hid (fun w => blocks_any z w (by omega) (by omega))
    rw [← hbz] at BZ
    rw [← hla] at hlast
    have HGE := Lib.hid hge
    have HLA := Lib.hid hla
    clear hge hla hbz hzm hz hmay hL hq hcv hc33 hf x1 x2
    have g1 : ((q : Int) + 1 != (q : Int) + 1) = false := by simp
    have g2 : ((f : Int) != (f : Int)) = false := by simp
    have g3 : (last != last) = false := by simp
    generalize fz (f : Int) = zf at *
    generalize fz ((q : Int) + 1) = zq at *
    go_enter Try.func4, Try.ntmps4
    go_wp2_with fail
    refine (P1.out _).mono ?_
    rintro e w' ⟨rfl, rfl⟩
    go_wp2_with fail
    refine (P2.out _).mono ?_
    rintro e w' ⟨rfl, rfl⟩
    go_wp2_with fail
    refine (P3.out _).mono ?_
    rintro e w' ⟨rfl, rfl⟩
    go_wp2_with fail
    refine (T1.out _).mono ?_
    rintro e w1 ⟨A1, c1, rfl, hs1, hc1, hb1⟩
    have HB1 := Lib.hid hb1
    have HS1 := Lib.hid hs1
    obtain ⟨b, off, rfl, hbb, hcell⟩ := hs1.at (by omega) (by decide)
    have hc0 : w1.cell? ⟨b, off, none⟩ = some (.int .i64 (f : Int)) := hcell 0 _ (by simp [run])
    have hcq : w1.cell? ⟨b, off + q, none⟩ = some (.int .i64 last) := hcell q _ (by rw [HLA.out]; simp [run])
    have HC := Lib.hid hcell
    have hz1 := hb1.size
    clear hs1 hb1 hcell
    go_wp2_with fail
    refine (ST.out _).mono ?_
    rintro e w' ⟨rfl, rfl⟩
    go_wp2_with fail
    go_loopw [14] (fun i wr => ∃ j : Nat, j ≤ q ∧ i = .int .i64 ((j : Int) + 1) ∧ Below w1.heap.size w1 wr) (fun i _ => q + 1 - (intOf i).toNat)
    case atStart => exact ⟨0, by omega, rfl, Below.refl _ _⟩
    case round =>
      obtain ⟨j, hj, rfl, hbel⟩ := hrel
      have HBR := Lib.hid hbel
      have hzr := hbel.size
      clear hc0 hcq
      by_cases hlt : j < q
      · have hltI : (j : Int) + 1 < (q : Int) + 1 := by omega
        have hjj : (0 : Int) ≤ (j : Int) := by omega
        obtain ⟨x, hx⟩ : ∃ x : Int, x = ((f + (j + 1) : Nat) : Int) := ⟨_, rfl⟩
        obtain ⟨y, hy⟩ : ∃ y : Int, y = ((f + j : Nat) : Int) := ⟨_, rfl⟩
        have e1 : wr.cell? ⟨b, off + (j + 1), none⟩ = some (.int .i64 x) := (Below.cell hbel (p := ⟨b, off + (j + 1), none⟩) hbb).trans (HC.out (j + 1) _ (by rw [List.getElem?_map, run_get _ _ _ (by omega), hx]; rfl))
        have e2 : wr.cell? ⟨b, off + j, none⟩ = some (.int .i64 y) := (Below.cell hbel (p := ⟨b, off + j, none⟩) hbb).trans (HC.out j _ (by rw [List.getElem?_map, run_get _ _ _ (by omega), hy]; rfl))
        have hxy : (x != y + 1) = false := by simp; omega
        have hy0 : 0 ≤ y := by omega
        have hy1 : y ≤ 100 := by omega
        clear hx hy hbel
        go_wp2
        go_quiet (fail)
        go_wp2
        go_roundw
        case rel => exact ⟨j + 1, by omega, by go_num, bel_drewN HBR.out _⟩
        case measure => simp [intOf]; omega
      · obtain rfl : j = q := by omega
        have hge : (j : Int) + 1 ≤ (j : Int) + 1 := by omega
        have HCL : Hid (∀ w', Below wr.heap.size wr w' → w'.cell? ⟨b, off + j, none⟩ = some (.int .i64 last)) :=
          Lib.hid fun w' hk => ((Below.cell hk (p := ⟨b, off + j, none⟩) (Nat.lt_of_lt_of_le hbb hzr)).trans (Below.cell hbel (p := ⟨b, off + j, none⟩) hbb)).trans (HC.out j _ (by rw [HLA.out]; simp [run]))
        clear hbel
        go_wp2_with fail
        refine (S1.out _).mono ?_
        rintro e w' ⟨rfl, rfl⟩
        go_wp2_with fail
        refine wp_region_rely (by kernel_rfl) (fun d u w' => match d with
          | 6 => u = (.bool true : Value)
          | 120 => u = (.bool true : Value)
          | 121 => u = (.bool true : Value)
          | 122 => u = (.int .i64 z : Value)
          | 123 => u = (.int .i64 (S : Int) : Value)
          | 124 => u = (.int .i64 (A : Int) : Value)
          | 125 => u = (.int .i64 (kk : Int) : Value)
          | 126 => u = (.int .i64 ((A : Int) + (kk : Int)) : Value)
          | 127 => u = (.int .i64 z : Value)
          | 128 => u = (.bool true : Value)
          | 129 => u = (.bool true : Value)
          | 130 => u = (.bool true : Value)
          | 131 => u = (.int .i64 z : Value)
          | 132 => u = (.int .i64 bz : Value)
          | 133 => u = (.slice (some ⟨b, off, none⟩) (j + 1) c1 : Value)
          | 134 => u = (.slice (some ⟨b, off, none⟩) (j + 1) c1 : Value)
          | 135 => u = (.int .i64 ((j : Int) + 1) : Value)
          | 136 => u = (.int .i64 (j : Int) : Value)
          | 137 => u = (.pointer (some ⟨b, off + j, none⟩) : Value)
          | 138 => u = (.int .i64 last : Value)
          | 139 => u = (.int .i64 (last + 1) : Value)
          | 140 => u = (.bool true : Value)
          | 141 => u = (.bool true : Value)
          | 142 => u = (.bool true : Value)
          | 143 => u = (.bool true : Value)
          | 144 => u = (.bool true : Value)
          | _ => True) 145 rfl (by decide +kernel) [6] ?_ ?_
        · refine AllSteps.cons (Step.move _ rfl rfl fun a w' hl => hl.old 16 rfl) ?_
          refine AllSteps.cons (Step.move _ rfl rfl fun a w' hl => let ⟨_, _, _, h⟩ := hl.dep 0 120 rfl rfl; h) ?_
          refine AllSteps.cons (Step.yes 1 true 121 rfl rfl rfl (fun _ _ h => h) fun a w' K hl hK => ?_) ?_
          · have h15 : a.eval (.tmp 15) = (.int .i64 z : Value) := hl.old 15 rfl
            exact wp_val (a.eval (.tmp 15)) rfl (hK _ _ (Kept.refl _) h15)
          refine AllSteps.cons (Step.yes 1 true 121 rfl rfl rfl (fun _ _ h => h) fun a w' K hl hK => ?_) ?_
          · have h7 : a.eval (.tmp 7) = (.int .i64 (S : Int) : Value) := hl.old 7 rfl
            exact wp_val (a.eval (.tmp 7)) rfl (hK _ _ (Kept.refl _) h7)
          refine AllSteps.cons (Step.yes 1 true 121 rfl rfl rfl (fun _ _ h => h) fun a w' K hl hK => ?_) ?_
          · have h8 : a.eval (.tmp 8) = (.int .i64 (A : Int) : Value) := hl.old 8 rfl
            exact wp_val (a.eval (.tmp 8)) rfl (hK _ _ (Kept.refl _) h8)
          refine AllSteps.cons (Step.yes 1 true 121 rfl rfl rfl (fun _ _ h => h) fun a w' K hl hK => ?_) ?_
          · have h9 : a.eval (.tmp 9) = (.int .i64 (kk : Int) : Value) := hl.old 9 rfl
            exact wp_val (a.eval (.tmp 9)) rfl (hK _ _ (Kept.refl _) h9)
          refine AllSteps.cons (Step.yes 1 true 121 rfl rfl rfl (fun _ _ h => h) fun a w' K hl hK => ?_) ?_
          · obtain ⟨_, _, _, h124⟩ := hl.dep 4 124 rfl rfl
            replace h124 : a.eval (.tmp 124) = _ := h124
            obtain ⟨_, _, _, h125⟩ := hl.dep 5 125 rfl rfl
            replace h125 : a.eval (.tmp 125) = _ := h125
            refine wp_val (.int .i64 ((A : Int) + (kk : Int))) ?_ (hK _ _ (Kept.refl _) rfl)
            clear hl hK
            generalize a.eval = ρ at *
            simp [execOp, go_sem, h124, h125, IntWalk.i64_in ((A : Int) + (kk : Int)) (by omega)]
          refine AllSteps.cons (Step.yes 1 true 121 rfl rfl rfl (fun _ _ h => h) fun a w' K hl hK => ?_) ?_
          · obtain ⟨_, _, _, h123⟩ := hl.dep 3 123 rfl rfl
            replace h123 : a.eval (.tmp 123) = _ := h123
            obtain ⟨_, _, _, h126⟩ := hl.dep 6 126 rfl rfl
            replace h126 : a.eval (.tmp 126) = _ := h126
            refine wp_val (.int .i64 z) ?_ (hK _ _ (Kept.refl _) rfl)
            clear hl hK
            generalize a.eval = ρ at *
            simp [go_sem, h123, h126, HZ.out]
            try (split <;> omega)
          refine AllSteps.cons (Step.yes 1 true 121 rfl rfl rfl (fun _ _ h => h) fun a w' K hl hK => ?_) ?_
          · obtain ⟨_, _, _, h122⟩ := hl.dep 2 122 rfl rfl
            replace h122 : a.eval (.tmp 122) = _ := h122
            obtain ⟨_, _, _, h127⟩ := hl.dep 7 127 rfl rfl
            replace h127 : a.eval (.tmp 127) = _ := h127
            refine wp_val (.bool true) ?_ (hK _ _ (Kept.refl _) rfl)
            clear hl hK
            generalize a.eval = ρ at *
            simp [execOp, go_sem, h122, h127]
          refine AllSteps.cons (Step.plain rfl fun a w' K hl hK => ?_) ?_
          · obtain ⟨_, _, _, h121⟩ := hl.dep 1 121 rfl rfl
            replace h121 : a.eval (.tmp 121) = _ := h121
            obtain ⟨_, _, _, h128⟩ := hl.dep 8 128 rfl rfl
            replace h128 : a.eval (.tmp 128) = _ := h128
            exact wp_pick rfl true h121 (hK _ _ (Kept.refl _) h128)
          refine AllSteps.cons (Step.move _ rfl rfl fun a w' hl => let ⟨_, _, _, h⟩ := hl.dep 9 129 rfl rfl; h) ?_
          refine AllSteps.cons (Step.yes 10 true 130 rfl rfl rfl (fun _ _ h => h) fun a w' K hl hK => ?_) ?_
          · have h15 : a.eval (.tmp 15) = (.int .i64 z : Value) := hl.old 15 rfl
            exact wp_val (a.eval (.tmp 15)) rfl (hK _ _ (Kept.refl _) h15)
          refine AllSteps.cons (Step.yes 10 true 130 rfl rfl rfl (fun _ _ h => h) fun a w' K hl hK => ?_) ?_
          · obtain ⟨_, _, _, h131⟩ := hl.dep 11 131 rfl rfl
            replace h131 : a.eval (.tmp 131) = _ := h131
            refine wp_call rfl Try.func13 rfl rfl #[.int .i64 z] (by simp [h131]) ?_
            refine (BZ.out w').mono ?_
            rintro e w7 ⟨rfl, rfl⟩
            exact ⟨_, rfl, hK _ _ (Kept.refl _) rfl⟩
          refine AllSteps.cons (Step.yes 10 true 130 rfl rfl rfl (fun _ _ h => h) fun a w' K hl hK => ?_) ?_
          · have h10 : a.eval (.tmp 10) = (.slice (some ⟨b, off, none⟩) (j + 1) c1 : Value) := hl.old 10 rfl
            exact wp_val (a.eval (.tmp 10)) rfl (hK _ _ (Kept.refl _) h10)
          refine AllSteps.cons (Step.yes 10 true 130 rfl rfl rfl (fun _ _ h => h) fun a w' K hl hK => ?_) ?_
          · have h10 : a.eval (.tmp 10) = (.slice (some ⟨b, off, none⟩) (j + 1) c1 : Value) := hl.old 10 rfl
            exact wp_val (a.eval (.tmp 10)) rfl (hK _ _ (Kept.refl _) h10)
          refine AllSteps.cons (Step.yes 10 true 130 rfl rfl rfl (fun _ _ h => h) fun a w' K hl hK => ?_) ?_
          · obtain ⟨_, _, _, h134⟩ := hl.dep 14 134 rfl rfl
            replace h134 : a.eval (.tmp 134) = _ := h134
            refine wp_val (.int .i64 ((j : Int) + 1)) ?_ (hK _ _ (Kept.refl _) rfl)
            clear hl hK
            generalize a.eval = ρ at *
            simp [go_sem, h134]
          refine AllSteps.cons (Step.yes 10 true 130 rfl rfl rfl (fun _ _ h => h) fun a w' K hl hK => ?_) ?_
          · obtain ⟨_, _, _, h135⟩ := hl.dep 15 135 rfl rfl
            replace h135 : a.eval (.tmp 135) = _ := h135
            have hconst : ∀ x, a.eval (.const x) = x := fun _ => rfl
            refine wp_val (.int .i64 (j : Int)) ?_ (hK _ _ (Kept.refl _) rfl)
            clear hl hK
            generalize a.eval = ρ at *
            simp [execOp, go_sem, h135, hconst, IntWalk.i64_in (j : Int) (by omega)]
          refine AllSteps.cons (Step.yes 10 true 130 rfl rfl rfl (fun _ _ h => h) fun a w' K hl hK => ?_) ?_
          · obtain ⟨_, _, _, h133⟩ := hl.dep 13 133 rfl rfl
            replace h133 : a.eval (.tmp 133) = _ := h133
            obtain ⟨_, _, _, h136⟩ := hl.dep 16 136 rfl rfl
            replace h136 : a.eval (.tmp 136) = _ := h136
            refine wp_val (.pointer (some ⟨b, off + j, none⟩)) ?_ (hK _ _ (Kept.refl _) rfl)
            clear hl hK
            generalize a.eval = ρ at *
            simp [execOp, go_sem, h133, h136]
            try omega
          refine AllSteps.cons (Step.yes 10 true 130 rfl rfl rfl (fun _ _ h => h) fun a w' K hl hK => ?_) ?_
          · obtain ⟨_, _, _, h137⟩ := hl.dep 17 137 rfl rfl
            replace h137 : a.eval (.tmp 137) = _ := h137
            have hcell : w'.cell? ⟨b, off + j, none⟩ = some (.int .i64 last) := (HCL.out _ hl.kept)
            refine wp_val (.int .i64 last) ?_ (hK _ _ (Kept.refl _) rfl)
            clear hl hK
            generalize a.eval = ρ at *
            simp [execOp, go_sem, h137, hcell]
          refine AllSteps.cons (Step.yes 10 true 130 rfl rfl rfl (fun _ _ h => h) fun a w' K hl hK => ?_) ?_
          · obtain ⟨_, _, _, h138⟩ := hl.dep 18 138 rfl rfl
            replace h138 : a.eval (.tmp 138) = _ := h138
            have hconst : ∀ x, a.eval (.const x) = x := fun _ => rfl
            refine wp_val (.int .i64 (last + 1)) ?_ (hK _ _ (Kept.refl _) rfl)
            clear hl hK
            generalize a.eval = ρ at *
            simp [execOp, go_sem, h138, hconst, IntWalk.i64_in (last + 1) (by omega)]
          refine AllSteps.cons (Step.yes 10 true 130 rfl rfl rfl (fun _ _ h => h) fun a w' K hl hK => ?_) ?_
          · obtain ⟨_, _, _, h132⟩ := hl.dep 12 132 rfl rfl
            replace h132 : a.eval (.tmp 132) = _ := h132
            obtain ⟨_, _, _, h139⟩ := hl.dep 19 139 rfl rfl
            replace h139 : a.eval (.tmp 139) = _ := h139
            refine wp_val (.bool true) ?_ (hK _ _ (Kept.refl _) rfl)
            clear hl hK
            generalize a.eval = ρ at *
            simp [execOp, go_sem, h132, h139, HGE.out]
          refine AllSteps.cons (Step.plain rfl fun a w' K hl hK => ?_) ?_
          · obtain ⟨_, _, _, h130⟩ := hl.dep 10 130 rfl rfl
            replace h130 : a.eval (.tmp 130) = _ := h130
            obtain ⟨_, _, _, h140⟩ := hl.dep 20 140 rfl rfl
            replace h140 : a.eval (.tmp 140) = _ := h140
            exact wp_pick rfl true h130 (hK _ _ (Kept.refl _) h140)
          refine AllSteps.cons (Step.move _ rfl rfl fun a w' hl => let ⟨_, _, _, h⟩ := hl.dep 21 141 rfl rfl; h) ?_
          refine AllSteps.cons (Step.yes 22 true 142 rfl rfl rfl (fun _ _ h => h) fun a w' K hl hK => ?_) ?_
          · refine wp_call rfl Try.func16 rfl rfl #[] (by simp) ?_
            refine (awake_any w').mono ?_
            rintro e w7 ⟨rfl, hb7⟩
            exact ⟨_, rfl, hK _ _ hb7 rfl⟩
          refine AllSteps.cons (Step.plain rfl fun a w' K hl hK => ?_) ?_
          · obtain ⟨_, _, _, h142⟩ := hl.dep 22 142 rfl rfl
            replace h142 : a.eval (.tmp 142) = _ := h142
            obtain ⟨_, _, _, h143⟩ := hl.dep 23 143 rfl rfl
            replace h143 : a.eval (.tmp 143) = _ := h143
            exact wp_pick rfl true h142 (hK _ _ (Kept.refl _) h143)
          refine AllSteps.cons (Step.assign _ rfl rfl fun a w' hl => let ⟨_, _, _, h⟩ := hl.dep 24 144 rfl rfl; h) ?_
          exact AllSteps.nil
        · intro f' w7 hk7 hf'
          obtain ⟨_, _, h6⟩ := hf' 6 rfl rfl
          replace h6 : f' 6 = .bool true := h6
          simp only [Exit.then, fill, dsts, List.filterMap_cons, List.filterMap_nil, List.foldl_cons, List.foldl_nil, Act.put, h6, List.setIfInBounds_toArray, List.set_cons_succ, List.set_cons_zero]
          clear hf'
          go_wp2_with fail
          go_ret
          exact ⟨rfl, HB1.out.trans ((HBR.out.mono hz1).trans (hk7.mono (Nat.le_trans hz1 hzr)))⟩
end Go.Proofs.Ytndfkpajojbfkaa.Ck
