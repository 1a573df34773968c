/-
  'BitsSets' walked: blocks that are set, in any map, one by one.
-/
import Derived.Test.YtipdaecihfkonaaBit6
import Derived.Test.YtipdaecihfkonaaRely
namespace Go.Proofs.Ytipdaecihfkonaa.Bt
open Go.RowKit Wd By Sp Fl Ga
set_option linter.unusedVariables false
attribute [local go_sem] str_toList str_append str_size
theorem own_onlyN {w w' : World} {B n s b : Nat} {e : TypeId} {v : Value} {xs : List Value} (h : w.ownsRow B e s v n xs) (ho : Only b w w') (hne : v.ownBlock ≠ some b) : w'.ownsRow B e s v n xs := by
  refine ⟨h.1, ?_⟩
  rcases h.2 with hn | ⟨g, cap, cur, rfl, hbb, hgg, rest⟩
  · exact .inl hn
  · exact .inr ⟨g, cap, cur, rfl, hbb, by rw [ho.block g (fun e => hne (by rw [e]; rfl))]; exact hgg, rest⟩

set_option maxRecDepth 100000 in
set_option maxHeartbeats 3200000 in
theorem sets_walk (bl : Int) (Aa : Option Addr) (at_ : List Int) (ca : Nat) (Au : Option Addr) (us : List Bool) (cu : Nat) (Ar : Option Addr) (raw : List UInt8) (cr : Nat) (w : World)
    (h1 : -9223372036854775808 ≤ bl) (h2 : bl ≤ 9223372036854775807)
    (ha : Sl w w.heap.size 1 Aa at_.length (at_.map (Value.int .i64))) (hca : at_.length ≤ ca) (had : at_.length ≤ 17592186044416) (hab : ∀ x ∈ at_, -9223372036854775808 ≤ x ∧ x ≤ 9223372036854775807)
    (hu : Sl w w.heap.size 1 Au us.length (us.map Value.bool)) (hcu : us.length ≤ cu) (hud : us.length ≤ 140737488355328)
    (hr : Sl w w.heap.size 1 Ar raw.length (raw.map bv)) (hcr : raw.length ≤ cr) (hrd : raw.length ≤ 140737488355328) :
    Calls Try.prog 3 #[.int .i64 bl, .slice Aa at_.length ca, .slice Au us.length cu, .slice Ar raw.length cr] w fun e w' => e = .returned (.bool true) ∧ Below w.heap.size w w' := by
  have HA0 := Lib.hid ha
  have HAB := Lib.hid hab
  have HU0 := Lib.hid hu
  have HR0 := Lib.hid hr
  clear ha hab hu hr
  have HN := Lib.hid (fun w => new_any bl w)
  have HRN := Lib.hid (fun w => rnew_any bl w)
  obtain ⟨M0, hM0⟩ : ∃ M, M = newL bl := ⟨_, rfl⟩
  have hl0 := newL_len bl
  rw [← hM0] at HN HRN hl0
  have HL0 := Lib.hid hl0
  have HMAP : Hid (∀ A w, Sl w w.heap.size 1 A 128 (M0.map bv) → Calls Try.prog 11 #[.slice A 128 128] w (OwnT w (mapF (bitN M0)))) := Lib.hid fun A w hs => rmap_yes A M0 hl0 128 w hs
  clear hM0 hl0
  go_enter Try.func3, Try.ntmps3
  go_wp2_with fail
  refine (HN.out _).mono ?_
  rintro e w1 ⟨g, rfl, ho1, hb1⟩
  have hgb := (own_lt ho1 g rfl).1
  have hg1 := (own_lt ho1 g rfl).2
  have HO1 := Lib.hid ho1
  have HB1 := Lib.hid hb1
  clear ho1 hb1
  go_wp2_with fail
  refine (HRN.out _).mono ?_
  rintro e w2 ⟨g2, rfl, ho2, hb2⟩
  have HO2 := Lib.hid (own_bel HO1.out hb2)
  have HW2 := Lib.hid (Sl.own ho2)
  have HB2 := Lib.hid (HB1.out.trans (Below.mono hb2 HB1.out.size))
  have hz2 := hb2.size
  clear ho2 hb2
  go_wp2_with (first
    | ((with_reducible show wpList _ _ _ (⟨some 20, _, _, _, _, _⟩ :: _) _ _); refine wpList_convert_sl rfl _ _ _ _ rfl Try.underlying24 Try.underlying5 Try.underlying9 _ _ _ M0 rfl (Sl.own HO2.out) rfl ?_)
    | ((with_reducible show wpList _ _ _ (⟨some 22, _, _, _, _, _⟩ :: _) _ _); refine wpList_convert_sl rfl _ _ _ _ rfl Try.underlying24 Try.underlying5 Try.underlying9 _ _ _ M0 rfl HW2.out rfl ?_))
  refine (HMAP.out _ _ HW2.out).mono ?_
  rintro e w3 ⟨gm, rfl, ho3, hb3⟩
  have hgm := (own_lt ho3 gm rfl).1
  have HO3 := Lib.hid (own_bel HO2.out hb3)
  have HM3 := Lib.hid (ho3.mono HB2.out.size)
  have HB3 := Lib.hid (HB2.out.trans (Below.mono hb3 HB2.out.size))
  have hgmb : w.heap.size ≤ gm := Nat.le_trans HB2.out.size hgm
  have hne : g < gm := by omega
  clear ho3 hb3 hgm hg1 hz2
  go_wp2_with fail
  go_loopw [12] (fun iv wr => ∃ (i : Nat) (M : List UInt8), i ≤ at_.length ∧ iv = .int .i64 (i : Int) ∧ M.length = 128 ∧ wr.ownsRow w.heap.size 5 1 (.slice (some ⟨g, 0, none⟩) 128 128) 128 (M.map bv) ∧ wr.ownsRow w.heap.size 4 1 (.slice (some ⟨gm, 0, none⟩) 1024 1024) 1024 ((mapF (bitN M)).map Value.bool) ∧ Below w.heap.size w wr) (fun i _ => at_.length - (intOf i).toNat)
  case atStart => exact ⟨0, M0, by omega, rfl, HL0.out, HO3.out, HM3.out, HB3.out⟩
  case round =>
    obtain ⟨i, M, hi, rfl, hM, hown, hownm, hbel⟩ := hrel
    have HM := Lib.hid hM
    have HO := Lib.hid hown
    have HOM := Lib.hid hownm
    have HB := Lib.hid hbel
    clear hM hown hownm hbel
    by_cases hlt : i < at_.length ∧ i < 50
    · obtain ⟨hlt, hlt5⟩ := hlt
      have hltI : (i : Int) < (at_.length : Int) := by omega
      have hlt5I : (i : Int) < 50 := by omega
      have hi0 : (0 : Int) ≤ (i : Int) := by omega
      obtain ⟨z, hz⟩ : ∃ z, at_[i]? = some z := ⟨_, List.getElem?_eq_getElem hlt⟩
      obtain ⟨b1, off1, rfl, hbb1, hcell1⟩ := HA0.out.at (by omega) (by decide)
      have HCW := Lib.hid (hcell1 i (.int .i64 z) (by rw [List.getElem?_map, hz]; rfl))
      have hck1 := (Below.cell HB.out (p := ⟨b1, off1 + i, none⟩) hbb1).trans HCW.out
      obtain ⟨z1, z2⟩ := HAB.out z (List.mem_of_getElem? hz)
      clear hz hcell1
      by_cases hu : i < us.length
      · have huI : (i : Int) < (us.length : Int) := by omega
        obtain ⟨U, hU⟩ : ∃ U, us[i]? = some U := ⟨_, List.getElem?_eq_getElem hu⟩
        obtain ⟨b2, off2, rfl, hbb2, hcell2⟩ := HU0.out.at (by omega) (by decide)
        have hck2 := (Below.cell HB.out (p := ⟨b2, off2 + i, none⟩) hbb2).trans (hcell2 i (.bool U) (by rw [List.getElem?_map, hU]; rfl))
        clear hU hcell2 hbb2
        by_cases hz0 : z < 0
        · have SX := Lib.hid (set_no U (some ⟨g, 0, none⟩) M 128 z wr (.inr (.inl hz0)))
          rw [HM.out] at SX
          go_wp2_with fail
          refine SX.out.mono ?_
          rintro e w' ⟨rfl, rfl⟩
          go_wp2_with fail
          go_roundw
          case rel => exact ⟨i + 1, M, by omega, by go_num, HM.out, HO.out, HOM.out, HB.out⟩
          case measure => simp [intOf]; omega
        · by_cases hz9 : 1024 ≤ z
          · have SX := Lib.hid (set_no U (some ⟨g, 0, none⟩) M 128 z wr (.inr (.inr hz9)))
            rw [HM.out] at SX
            go_wp2_with fail
            refine SX.out.mono ?_
            rintro e w' ⟨rfl, rfl⟩
            go_wp2_with fail
            go_roundw
            case rel => exact ⟨i + 1, M, by omega, by go_num, HM.out, HO.out, HOM.out, HB.out⟩
            case measure => simp [intOf]; omega
          · obtain ⟨x, rfl⟩ := Int.eq_ofNat_of_zero_le (show 0 ≤ z by omega)
            have hx1024 : x < 1024 := by omega
            have hxI : (x : Int) < 1024 := by omega
            have hx0 : (0 : Int) ≤ (x : Int) := by omega
            have SX := Lib.hid (set_any U w.heap.size g 128 x M HM.out hx1024 wr HO.out)
            have HMS : Hid ((mapF fun i => if i = x then U else bitN M i) = mapF (bitN (setB M x U))) := Lib.hid (mapF_congr fun i _ => (bit_set HM.out hx1024 U i).symm)
            go_wp2_with fail
            refine SX.out.mono ?_
            rintro e w6 ⟨rfl, ho6, hon6⟩
            have HO6 := Lib.hid ho6
            have HOM6 := Lib.hid (own_onlyN HOM.out hon6 (by simp [Value.ownBlock]; omega))
            have HB6 := Lib.hid (hon6.below HB.out hgb)
            clear ho6 hon6
            obtain ⟨hc6, hf6⟩ := ownB_there HOM6.out x hx1024
            generalize (mapF (bitN M)).getD x false = oldb at *
            have hst := ownB_set HOM6.out x U
            rw [mapF_set _ hx1024, HMS.out] at hst
            have HST := Lib.hid hst
            have HOS := Lib.hid (own_onlyN HO6.out (Only.setCell gm x w6 (.bool U)) (by simp [Value.ownBlock]; omega))
            clear hst
            have hck6 := (Below.cell HB6.out (p := ⟨b1, off1 + i, none⟩) hbb1).trans HCW.out
            go_wp2_with fail
            exact ⟨⟨i + 1, setB M x U, by omega, by go_num, by rw [setB_len]; exact HM.out, HOS.out, HST.out, (Only.setCell gm x w6 _).below HB6.out hgmb⟩, by simp [intOf]; omega⟩
      · have huI : (us.length : Int) ≤ (i : Int) := by omega
        by_cases hz0 : z < 0
        · have SX := Lib.hid (set_no false (some ⟨g, 0, none⟩) M 128 z wr (.inr (.inl hz0)))
          rw [HM.out] at SX
          go_wp2_with fail
          refine SX.out.mono ?_
          rintro e w' ⟨rfl, rfl⟩
          go_wp2_with fail
          go_roundw
          case rel => exact ⟨i + 1, M, by omega, by go_num, HM.out, HO.out, HOM.out, HB.out⟩
          case measure => simp [intOf]; omega
        · by_cases hz9 : 1024 ≤ z
          · have SX := Lib.hid (set_no false (some ⟨g, 0, none⟩) M 128 z wr (.inr (.inr hz9)))
            rw [HM.out] at SX
            go_wp2_with fail
            refine SX.out.mono ?_
            rintro e w' ⟨rfl, rfl⟩
            go_wp2_with fail
            go_roundw
            case rel => exact ⟨i + 1, M, by omega, by go_num, HM.out, HO.out, HOM.out, HB.out⟩
            case measure => simp [intOf]; omega
          · obtain ⟨x, rfl⟩ := Int.eq_ofNat_of_zero_le (show 0 ≤ z by omega)
            have hx1024 : x < 1024 := by omega
            have hxI : (x : Int) < 1024 := by omega
            have hx0 : (0 : Int) ≤ (x : Int) := by omega
            have SX := Lib.hid (set_any false w.heap.size g 128 x M HM.out hx1024 wr HO.out)
            have HMS : Hid ((mapF fun i => if i = x then false else bitN M i) = mapF (bitN (setB M x false))) := Lib.hid (mapF_congr fun i _ => (bit_set HM.out hx1024 false i).symm)
            go_wp2_with fail
            refine SX.out.mono ?_
            rintro e w6 ⟨rfl, ho6, hon6⟩
            have HO6 := Lib.hid ho6
            have HOM6 := Lib.hid (own_onlyN HOM.out hon6 (by simp [Value.ownBlock]; omega))
            have HB6 := Lib.hid (hon6.below HB.out hgb)
            clear ho6 hon6
            obtain ⟨hc6, hf6⟩ := ownB_there HOM6.out x hx1024
            generalize (mapF (bitN M)).getD x false = oldb at *
            have hst := ownB_set HOM6.out x false
            rw [mapF_set _ hx1024, HMS.out] at hst
            have HST := Lib.hid hst
            have HOS := Lib.hid (own_onlyN HO6.out (Only.setCell gm x w6 (.bool false)) (by simp [Value.ownBlock]; omega))
            clear hst
            have hck6 := (Below.cell HB6.out (p := ⟨b1, off1 + i, none⟩) hbb1).trans HCW.out
            go_wp2_with fail
            exact ⟨⟨i + 1, setB M x false, by omega, by go_num, by rw [setB_len]; exact HM.out, HOS.out, HST.out, (Only.setCell gm x w6 _).below HB6.out hgmb⟩, by simp [intOf]; omega⟩
    · by_cases hlt2 : i < at_.length
      · have hltI : (i : Int) < (at_.length : Int) := by omega
        have hge : (50 : Int) ≤ (i : Int) := by omega
        clear hlt
        have HSB := Lib.hid (Sl.own HO.out)
        have hmb : Sl wr wr.heap.size 1 (some ⟨gm, 0, none⟩) 1024 ((mapF (bitN M)).map Value.bool) := Sl.own HOM.out
        have HMB := Lib.hid hmb
        have HRB : Hid (∀ w', Below wr.heap.size wr w' → Calls Try.prog 14 #[.slice (some ⟨gm, 0, none⟩) 1024 1024] w' (OwnR w' M)) := Lib.hid fun w' hk => by
          have := rbytes_any (some ⟨gm, 0, none⟩) (bitN M) 1024 w' (HMB.out.on (Nat.le_refl _) hk)
          rwa [bS_back HM.out] at this
        clear hmb
        by_cases hraw : raw.length = 128
        · have hrt : ((raw.length : Int) != 128) = false := by rw [hraw]; rfl
          clear hraw
          go_wp2_with fail
          refine wp_region_rely (by kernel_rfl) (fun d u w' => match d with
            | 8 => u = (.bool true : Value)
            | 83 => u = (.slice (some ⟨g, 0, none⟩) 128 128 : Value)
            | 84 => u = (.string (str (M)) : Value)
            | 85 => u = (.slice (some ⟨gm, 0, none⟩) 1024 1024 : Value)
            | 86 => ∃ g5, u = .slice (some ⟨g5, 0, none⟩) 128 128 ∧ Sl w' w'.heap.size 1 (some ⟨g5, 0, none⟩) 128 (M.map bv)
            | 87 => u = (.string (str (M)) : Value)
            | 88 => u = (.bool true : Value)
            | 89 => u = (.bool true : Value)
            | 90 => u = (.bool true : Value)
            | 91 => u = (.bool true : Value)
            | _ => True) 92 rfl (by decide +kernel) [8] ?_ ?_
          · refine AllSteps.cons (Step.move _ rfl rfl fun a w' hl => hl.old 9 rfl) ?_
            refine AllSteps.cons (Step.plain rfl fun a w' K hl hK => ?_) ?_
            · obtain ⟨_, _, _, h83⟩ := hl.dep 0 83 rfl rfl
              replace h83 : a.eval (.tmp 83) = _ := h83
              exact wp_conv rfl Try.underlying24 Try.underlying5 Try.underlying9 h83 (HSB.out.on (Nat.le_refl _) hl.kept) (hK _ _ (Kept.refl _) rfl)
            refine AllSteps.cons (Step.move _ rfl rfl fun a w' hl => hl.old 11 rfl) ?_
            refine AllSteps.cons (Step.plain rfl fun a w' K hl hK => ?_) ?_
            · obtain ⟨_, _, _, h85⟩ := hl.dep 2 85 rfl rfl
              replace h85 : a.eval (.tmp 85) = _ := h85
              refine wp_call rfl Try.func14 rfl rfl #[.slice (some ⟨gm, 0, none⟩) 1024 1024] (by simp [h85]) ?_
              refine (HRB.out w' hl.kept).mono ?_
              rintro e w7 ⟨g5, rfl, ho5, hb5⟩
              exact ⟨_, rfl, hK _ _ hb5 ⟨g5, rfl, Sl.own ho5⟩⟩
            refine AllSteps.cons (Step.plain rfl fun a w' K hl hK => ?_) ?_
            · obtain ⟨_, w1, hk1, g5, h86, hs7⟩ := hl.dep 3 86 rfl rfl
              exact wp_conv rfl Try.underlying24 Try.underlying5 Try.underlying9 h86 (hs7.on (Nat.le_refl _) hk1) (hK _ _ (Kept.refl _) rfl)
            refine AllSteps.cons (Step.plain rfl fun a w' K hl hK => ?_) ?_
            · obtain ⟨_, _, _, h84⟩ := hl.dep 1 84 rfl rfl
              replace h84 : a.eval (.tmp 84) = _ := h84
              obtain ⟨_, _, _, h87⟩ := hl.dep 4 87 rfl rfl
              replace h87 : a.eval (.tmp 87) = _ := h87
              exact wp_eql_str rfl h84 h87 _ (by simp) (hK _ _ (Kept.refl _) rfl)
            refine AllSteps.cons (Step.move _ rfl rfl fun a w' hl => let ⟨_, _, _, h⟩ := hl.dep 5 88 rfl rfl; h) ?_
            refine AllSteps.cons (Step.yes 6 true 89 rfl rfl rfl (fun _ _ h => h) fun a w' K hl hK => ?_) ?_
            · refine wp_call rfl Try.func15 rfl rfl #[] (by simp) ?_
              refine (awake_any w').mono ?_
              rintro e w7 ⟨rfl, hb7⟩
              exact ⟨_, rfl, hK _ _ hb7 rfl⟩
            refine AllSteps.cons (Step.plain rfl fun a w' K hl hK => ?_) ?_
            · obtain ⟨_, _, _, h89⟩ := hl.dep 6 89 rfl rfl
              replace h89 : a.eval (.tmp 89) = _ := h89
              obtain ⟨_, _, _, h90⟩ := hl.dep 7 90 rfl rfl
              replace h90 : a.eval (.tmp 90) = _ := h90
              exact wp_pick rfl true h89 (hK _ _ (Kept.refl _) h90)
            refine AllSteps.cons (Step.assign _ rfl rfl fun a w' hl => let ⟨_, _, _, h⟩ := hl.dep 8 91 rfl rfl; h) ?_
            exact AllSteps.nil
          · intro f w9 hk9 hf
            obtain ⟨_, _, h8⟩ := hf 8 rfl rfl
            replace h8 : f 8 = .bool true := h8
            simp only [Exit.then, fill, dsts, List.filterMap_cons, List.filterMap_nil, List.foldl_cons, List.foldl_nil, Act.put, h8, List.setIfInBounds_toArray, List.set_cons_succ, List.set_cons_zero]
            clear hf
            go_wp2_with fail
            go_ret
            exact ⟨rfl, HB.out.trans (Below.mono hk9 HB.out.size)⟩
        · have hrt : ((raw.length : Int) != 128) = true := by rw [bne_iff_ne]; omega
          have HRW := Lib.hid hraw
          clear hraw
          go_wp2_with fail
          refine (bytes_any Ar raw cr wr (HR0.out.on (Nat.le_refl _) HB.out) hcr (by omega)).mono ?_
          rintro e w8 ⟨A8, c8, rfl, hm8, hb8⟩
          have HSB8 := Lib.hid (HSB.out.on (Nat.le_refl _) hb8)
          have HMB8 := Lib.hid (HMB.out.on (Nat.le_refl _) hb8)
          replace HRB : Hid (∀ w', Below w8.heap.size w8 w' → Calls Try.prog 14 #[.slice (some ⟨gm, 0, none⟩) 1024 1024] w' (OwnR w' M)) := Lib.hid fun w' hk => HRB.out w' (hb8.trans (Below.mono hk hb8.size))
          have HB8 := Lib.hid (HB.out.trans (Below.mono hb8 HB.out.size))
          clear hm8 hb8
          go_wp2_with fail
          refine (set_no true A8 raw c8 5 _ (.inl HRW.out)).mono ?_
          rintro e w' ⟨rfl, rfl⟩
          go_wp2_with fail
          refine wp_region_rely (by kernel_rfl) (fun d u w' => match d with
            | 8 => u = (.bool true : Value)
            | 83 => u = (.slice (some ⟨g, 0, none⟩) 128 128 : Value)
            | 84 => u = (.string (str (M)) : Value)
            | 85 => u = (.slice (some ⟨gm, 0, none⟩) 1024 1024 : Value)
            | 86 => ∃ g5, u = .slice (some ⟨g5, 0, none⟩) 128 128 ∧ Sl w' w'.heap.size 1 (some ⟨g5, 0, none⟩) 128 (M.map bv)
            | 87 => u = (.string (str (M)) : Value)
            | 88 => u = (.bool true : Value)
            | 89 => u = (.bool true : Value)
            | 90 => u = (.bool true : Value)
            | 91 => u = (.bool true : Value)
            | _ => True) 92 rfl (by decide +kernel) [8] ?_ ?_
          · refine AllSteps.cons (Step.move _ rfl rfl fun a w' hl => hl.old 9 rfl) ?_
            refine AllSteps.cons (Step.plain rfl fun a w' K hl hK => ?_) ?_
            · obtain ⟨_, _, _, h83⟩ := hl.dep 0 83 rfl rfl
              replace h83 : a.eval (.tmp 83) = _ := h83
              exact wp_conv rfl Try.underlying24 Try.underlying5 Try.underlying9 h83 (HSB8.out.on (Nat.le_refl _) hl.kept) (hK _ _ (Kept.refl _) rfl)
            refine AllSteps.cons (Step.move _ rfl rfl fun a w' hl => hl.old 11 rfl) ?_
            refine AllSteps.cons (Step.plain rfl fun a w' K hl hK => ?_) ?_
            · obtain ⟨_, _, _, h85⟩ := hl.dep 2 85 rfl rfl
              replace h85 : a.eval (.tmp 85) = _ := h85
              refine wp_call rfl Try.func14 rfl rfl #[.slice (some ⟨gm, 0, none⟩) 1024 1024] (by simp [h85]) ?_
              refine (HRB.out w' hl.kept).mono ?_
              rintro e w7 ⟨g5, rfl, ho5, hb5⟩
              exact ⟨_, rfl, hK _ _ hb5 ⟨g5, rfl, Sl.own ho5⟩⟩
            refine AllSteps.cons (Step.plain rfl fun a w' K hl hK => ?_) ?_
            · obtain ⟨_, w1, hk1, g5, h86, hs7⟩ := hl.dep 3 86 rfl rfl
              exact wp_conv rfl Try.underlying24 Try.underlying5 Try.underlying9 h86 (hs7.on (Nat.le_refl _) hk1) (hK _ _ (Kept.refl _) rfl)
            refine AllSteps.cons (Step.plain rfl fun a w' K hl hK => ?_) ?_
            · obtain ⟨_, _, _, h84⟩ := hl.dep 1 84 rfl rfl
              replace h84 : a.eval (.tmp 84) = _ := h84
              obtain ⟨_, _, _, h87⟩ := hl.dep 4 87 rfl rfl
              replace h87 : a.eval (.tmp 87) = _ := h87
              exact wp_eql_str rfl h84 h87 _ (by simp) (hK _ _ (Kept.refl _) rfl)
            refine AllSteps.cons (Step.move _ rfl rfl fun a w' hl => let ⟨_, _, _, h⟩ := hl.dep 5 88 rfl rfl; h) ?_
            refine AllSteps.cons (Step.yes 6 true 89 rfl rfl rfl (fun _ _ h => h) fun a w' K hl hK => ?_) ?_
            · refine wp_call rfl Try.func15 rfl rfl #[] (by simp) ?_
              refine (awake_any w').mono ?_
              rintro e w7 ⟨rfl, hb7⟩
              exact ⟨_, rfl, hK _ _ hb7 rfl⟩
            refine AllSteps.cons (Step.plain rfl fun a w' K hl hK => ?_) ?_
            · obtain ⟨_, _, _, h89⟩ := hl.dep 6 89 rfl rfl
              replace h89 : a.eval (.tmp 89) = _ := h89
              obtain ⟨_, _, _, h90⟩ := hl.dep 7 90 rfl rfl
              replace h90 : a.eval (.tmp 90) = _ := h90
              exact wp_pick rfl true h89 (hK _ _ (Kept.refl _) h90)
            refine AllSteps.cons (Step.assign _ rfl rfl fun a w' hl => let ⟨_, _, _, h⟩ := hl.dep 8 91 rfl rfl; h) ?_
            exact AllSteps.nil
          · intro f w9 hk9 hf
            obtain ⟨_, _, h8⟩ := hf 8 rfl rfl
            replace h8 : f 8 = .bool true := h8
            simp only [Exit.then, fill, dsts, List.filterMap_cons, List.filterMap_nil, List.foldl_cons, List.foldl_nil, Act.put, h8, List.setIfInBounds_toArray, List.set_cons_succ, List.set_cons_zero]
            clear hf
            go_wp2_with fail
            go_ret
            exact ⟨rfl, HB8.out.trans (Below.mono hk9 HB8.out.size)⟩
      · have hge : (at_.length : Int) ≤ (i : Int) := by omega
        clear hlt
        have HSB := Lib.hid (Sl.own HO.out)
        have hmb : Sl wr wr.heap.size 1 (some ⟨gm, 0, none⟩) 1024 ((mapF (bitN M)).map Value.bool) := Sl.own HOM.out
        have HMB := Lib.hid hmb
        have HRB : Hid (∀ w', Below wr.heap.size wr w' → Calls Try.prog 14 #[.slice (some ⟨gm, 0, none⟩) 1024 1024] w' (OwnR w' M)) := Lib.hid fun w' hk => by
          have := rbytes_any (some ⟨gm, 0, none⟩) (bitN M) 1024 w' (HMB.out.on (Nat.le_refl _) hk)
          rwa [bS_back HM.out] at this
        clear hmb
        by_cases hraw : raw.length = 128
        · have hrt : ((raw.length : Int) != 128) = false := by rw [hraw]; rfl
          clear hraw
          go_wp2_with fail
          refine wp_region_rely (by kernel_rfl) (fun d u w' => match d with
            | 8 => u = (.bool true : Value)
            | 83 => u = (.slice (some ⟨g, 0, none⟩) 128 128 : Value)
            | 84 => u = (.string (str (M)) : Value)
            | 85 => u = (.slice (some ⟨gm, 0, none⟩) 1024 1024 : Value)
            | 86 => ∃ g5, u = .slice (some ⟨g5, 0, none⟩) 128 128 ∧ Sl w' w'.heap.size 1 (some ⟨g5, 0, none⟩) 128 (M.map bv)
            | 87 => u = (.string (str (M)) : Value)
            | 88 => u = (.bool true : Value)
            | 89 => u = (.bool true : Value)
            | 90 => u = (.bool true : Value)
            | 91 => u = (.bool true : Value)
            | _ => True) 92 rfl (by decide +kernel) [8] ?_ ?_
          · refine AllSteps.cons (Step.move _ rfl rfl fun a w' hl => hl.old 9 rfl) ?_
            refine AllSteps.cons (Step.plain rfl fun a w' K hl hK => ?_) ?_
            · obtain ⟨_, _, _, h83⟩ := hl.dep 0 83 rfl rfl
              replace h83 : a.eval (.tmp 83) = _ := h83
              exact wp_conv rfl Try.underlying24 Try.underlying5 Try.underlying9 h83 (HSB.out.on (Nat.le_refl _) hl.kept) (hK _ _ (Kept.refl _) rfl)
            refine AllSteps.cons (Step.move _ rfl rfl fun a w' hl => hl.old 11 rfl) ?_
            refine AllSteps.cons (Step.plain rfl fun a w' K hl hK => ?_) ?_
            · obtain ⟨_, _, _, h85⟩ := hl.dep 2 85 rfl rfl
              replace h85 : a.eval (.tmp 85) = _ := h85
              refine wp_call rfl Try.func14 rfl rfl #[.slice (some ⟨gm, 0, none⟩) 1024 1024] (by simp [h85]) ?_
              refine (HRB.out w' hl.kept).mono ?_
              rintro e w7 ⟨g5, rfl, ho5, hb5⟩
              exact ⟨_, rfl, hK _ _ hb5 ⟨g5, rfl, Sl.own ho5⟩⟩
            refine AllSteps.cons (Step.plain rfl fun a w' K hl hK => ?_) ?_
            · obtain ⟨_, w1, hk1, g5, h86, hs7⟩ := hl.dep 3 86 rfl rfl
              exact wp_conv rfl Try.underlying24 Try.underlying5 Try.underlying9 h86 (hs7.on (Nat.le_refl _) hk1) (hK _ _ (Kept.refl _) rfl)
            refine AllSteps.cons (Step.plain rfl fun a w' K hl hK => ?_) ?_
            · obtain ⟨_, _, _, h84⟩ := hl.dep 1 84 rfl rfl
              replace h84 : a.eval (.tmp 84) = _ := h84
              obtain ⟨_, _, _, h87⟩ := hl.dep 4 87 rfl rfl
              replace h87 : a.eval (.tmp 87) = _ := h87
              exact wp_eql_str rfl h84 h87 _ (by simp) (hK _ _ (Kept.refl _) rfl)
            refine AllSteps.cons (Step.move _ rfl rfl fun a w' hl => let ⟨_, _, _, h⟩ := hl.dep 5 88 rfl rfl; h) ?_
            refine AllSteps.cons (Step.yes 6 true 89 rfl rfl rfl (fun _ _ h => h) fun a w' K hl hK => ?_) ?_
            · refine wp_call rfl Try.func15 rfl rfl #[] (by simp) ?_
              refine (awake_any w').mono ?_
              rintro e w7 ⟨rfl, hb7⟩
              exact ⟨_, rfl, hK _ _ hb7 rfl⟩
            refine AllSteps.cons (Step.plain rfl fun a w' K hl hK => ?_) ?_
            · obtain ⟨_, _, _, h89⟩ := hl.dep 6 89 rfl rfl
              replace h89 : a.eval (.tmp 89) = _ := h89
              obtain ⟨_, _, _, h90⟩ := hl.dep 7 90 rfl rfl
              replace h90 : a.eval (.tmp 90) = _ := h90
              exact wp_pick rfl true h89 (hK _ _ (Kept.refl _) h90)
            refine AllSteps.cons (Step.assign _ rfl rfl fun a w' hl => let ⟨_, _, _, h⟩ := hl.dep 8 91 rfl rfl; h) ?_
            exact AllSteps.nil
          · intro f w9 hk9 hf
            obtain ⟨_, _, h8⟩ := hf 8 rfl rfl
            replace h8 : f 8 = .bool true := h8
            simp only [Exit.then, fill, dsts, List.filterMap_cons, List.filterMap_nil, List.foldl_cons, List.foldl_nil, Act.put, h8, List.setIfInBounds_toArray, List.set_cons_succ, List.set_cons_zero]
            clear hf
            go_wp2_with fail
            go_ret
            exact ⟨rfl, HB.out.trans (Below.mono hk9 HB.out.size)⟩
        · have hrt : ((raw.length : Int) != 128) = true := by rw [bne_iff_ne]; omega
          have HRW := Lib.hid hraw
          clear hraw
          go_wp2_with fail
          refine (bytes_any Ar raw cr wr (HR0.out.on (Nat.le_refl _) HB.out) hcr (by omega)).mono ?_
          rintro e w8 ⟨A8, c8, rfl, hm8, hb8⟩
          have HSB8 := Lib.hid (HSB.out.on (Nat.le_refl _) hb8)
          have HMB8 := Lib.hid (HMB.out.on (Nat.le_refl _) hb8)
          replace HRB : Hid (∀ w', Below w8.heap.size w8 w' → Calls Try.prog 14 #[.slice (some ⟨gm, 0, none⟩) 1024 1024] w' (OwnR w' M)) := Lib.hid fun w' hk => HRB.out w' (hb8.trans (Below.mono hk hb8.size))
          have HB8 := Lib.hid (HB.out.trans (Below.mono hb8 HB.out.size))
          clear hm8 hb8
          go_wp2_with fail
          refine (set_no true A8 raw c8 5 _ (.inl HRW.out)).mono ?_
          rintro e w' ⟨rfl, rfl⟩
          go_wp2_with fail
          refine wp_region_rely (by kernel_rfl) (fun d u w' => match d with
            | 8 => u = (.bool true : Value)
            | 83 => u = (.slice (some ⟨g, 0, none⟩) 128 128 : Value)
            | 84 => u = (.string (str (M)) : Value)
            | 85 => u = (.slice (some ⟨gm, 0, none⟩) 1024 1024 : Value)
            | 86 => ∃ g5, u = .slice (some ⟨g5, 0, none⟩) 128 128 ∧ Sl w' w'.heap.size 1 (some ⟨g5, 0, none⟩) 128 (M.map bv)
            | 87 => u = (.string (str (M)) : Value)
            | 88 => u = (.bool true : Value)
            | 89 => u = (.bool true : Value)
            | 90 => u = (.bool true : Value)
            | 91 => u = (.bool true : Value)
            | _ => True) 92 rfl (by decide +kernel) [8] ?_ ?_
          · refine AllSteps.cons (Step.move _ rfl rfl fun a w' hl => hl.old 9 rfl) ?_
            refine AllSteps.cons (Step.plain rfl fun a w' K hl hK => ?_) ?_
            · obtain ⟨_, _, _, h83⟩ := hl.dep 0 83 rfl rfl
              replace h83 : a.eval (.tmp 83) = _ := h83
              exact wp_conv rfl Try.underlying24 Try.underlying5 Try.underlying9 h83 (HSB8.out.on (Nat.le_refl _) hl.kept) (hK _ _ (Kept.refl _) rfl)
            refine AllSteps.cons (Step.move _ rfl rfl fun a w' hl => hl.old 11 rfl) ?_
            refine AllSteps.cons (Step.plain rfl fun a w' K hl hK => ?_) ?_
            · obtain ⟨_, _, _, h85⟩ := hl.dep 2 85 rfl rfl
              replace h85 : a.eval (.tmp 85) = _ := h85
              refine wp_call rfl Try.func14 rfl rfl #[.slice (some ⟨gm, 0, none⟩) 1024 1024] (by simp [h85]) ?_
              refine (HRB.out w' hl.kept).mono ?_
              rintro e w7 ⟨g5, rfl, ho5, hb5⟩
              exact ⟨_, rfl, hK _ _ hb5 ⟨g5, rfl, Sl.own ho5⟩⟩
            refine AllSteps.cons (Step.plain rfl fun a w' K hl hK => ?_) ?_
            · obtain ⟨_, w1, hk1, g5, h86, hs7⟩ := hl.dep 3 86 rfl rfl
              exact wp_conv rfl Try.underlying24 Try.underlying5 Try.underlying9 h86 (hs7.on (Nat.le_refl _) hk1) (hK _ _ (Kept.refl _) rfl)
            refine AllSteps.cons (Step.plain rfl fun a w' K hl hK => ?_) ?_
            · obtain ⟨_, _, _, h84⟩ := hl.dep 1 84 rfl rfl
              replace h84 : a.eval (.tmp 84) = _ := h84
              obtain ⟨_, _, _, h87⟩ := hl.dep 4 87 rfl rfl
              replace h87 : a.eval (.tmp 87) = _ := h87
              exact wp_eql_str rfl h84 h87 _ (by simp) (hK _ _ (Kept.refl _) rfl)
            refine AllSteps.cons (Step.move _ rfl rfl fun a w' hl => let ⟨_, _, _, h⟩ := hl.dep 5 88 rfl rfl; h) ?_
            refine AllSteps.cons (Step.yes 6 true 89 rfl rfl rfl (fun _ _ h => h) fun a w' K hl hK => ?_) ?_
            · refine wp_call rfl Try.func15 rfl rfl #[] (by simp) ?_
              refine (awake_any w').mono ?_
              rintro e w7 ⟨rfl, hb7⟩
              exact ⟨_, rfl, hK _ _ hb7 rfl⟩
            refine AllSteps.cons (Step.plain rfl fun a w' K hl hK => ?_) ?_
            · obtain ⟨_, _, _, h89⟩ := hl.dep 6 89 rfl rfl
              replace h89 : a.eval (.tmp 89) = _ := h89
              obtain ⟨_, _, _, h90⟩ := hl.dep 7 90 rfl rfl
              replace h90 : a.eval (.tmp 90) = _ := h90
              exact wp_pick rfl true h89 (hK _ _ (Kept.refl _) h90)
            refine AllSteps.cons (Step.assign _ rfl rfl fun a w' hl => let ⟨_, _, _, h⟩ := hl.dep 8 91 rfl rfl; h) ?_
            exact AllSteps.nil
          · intro f w9 hk9 hf
            obtain ⟨_, _, h8⟩ := hf 8 rfl rfl
            replace h8 : f 8 = .bool true := h8
            simp only [Exit.then, fill, dsts, List.filterMap_cons, List.filterMap_nil, List.foldl_cons, List.foldl_nil, Act.put, h8, List.setIfInBounds_toArray, List.set_cons_succ, List.set_cons_zero]
            clear hf
            go_wp2_with fail
            go_ret
            exact ⟨rfl, HB8.out.trans (Below.mono hk9 HB8.out.size)⟩
end Go.Proofs.Ytipdaecihfkonaa.Bt
