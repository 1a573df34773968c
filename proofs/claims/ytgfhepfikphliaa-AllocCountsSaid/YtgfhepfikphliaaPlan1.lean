/-
  The document's Plan.
-/
import Derived.Test.YtgfhepfikphliaaPlan0
namespace Go.Proofs.Ytgfhepfikphliaa.Pn
open Fl Sp Go.RowKit Wd By Bt
set_option linter.unusedVariables false
theorem tv_one : ∀ l : List Bool, ∀ u ∈ l.map Value.bool, u.oneCell' = true := fun l u hu => by
  obtain ⟨_, _, rfl⟩ := List.mem_map.1 hu
  rfl
theorem own_onlyN {w w' : World} {B n s b : Nat} {e : TypeId} {v : Value} {xs : List Value} (h : w.ownsRow B e s v n xs) (ho : Only b w w') (hne : v.ownBlock ≠ some b) : w'.ownsRow B e s v n xs := by
  refine ⟨h.1, ?_⟩
  rcases h.2 with hn | ⟨g, cap, cur, rfl, hbb, hgg, rest⟩
  · exact .inl hn
  · exact .inr ⟨g, cap, cur, rfl, hbb, by rw [ho.block g (fun e => hne (by rw [e]; rfl))]; exact hgg, rest⟩
set_option maxRecDepth 50000 in
set_option maxHeartbeats 1600000 in
theorem rplan_any (A : Option Addr) (L : List UInt8) (c : Nat) (blocks n : Int) (Ag : Option Addr) (gone : List Int) (cg : Nat) (w : World) (hs : Sl w w.heap.size 1 A L.length (L.map bv)) (hlc : L.length ≤ c) (hk : L.length ≤ 140737488355328)
    (hg : Sl w w.heap.size 1 Ag gone.length (gone.map (Value.int .i64))) (hgk : gone.length ≤ 17592186044416) :
    Calls Try.prog 18 #[.slice A L.length c, .int .i64 blocks, .int .i64 n, .slice Ag gone.length cg] w (PlanR w (planM L blocks n gone)) := by
  obtain ⟨i0, hi, hz0, hz1, hz2⟩ := info_parts infoT
  have HT := Lib.hid (rtake_any A L c blocks n w hs hk)
  have HTM := Lib.hid (take_mem L blocks n)
  have HS := Lib.hid hs
  have HG := Lib.hid hg
  have HP : Hid (planM L blocks n gone = if takeB L blocks n = true ∧ L.length = 128 then (goneM blocks L gone).map fun M => (takeL L blocks n, setT M (takeL L blocks n)) else none) := rfl
  have htl : (takeL L blocks n).length ≤ 1024 := by
    have := frees_len L blocks (top blocks)
    have := top_le blocks
    rw [takeL_form, List.length_take]; omega
  obtain ⟨PM, hPM⟩ : ∃ m, m = planM L blocks n gone := ⟨_, rfl⟩
  rw [← hPM] at HP ⊢
  clear hs hg hPM
  cases htb : takeB L blocks n
  · rw [htb] at HT HP
    have HN : Hid (PM = none) := Lib.hid (by rw [HP.out, if_neg (by simp)])
    clear htb
    go_enter Try.func18, Try.ntmps18
    go_wp2_with fail
    refine HT.out.mono ?_
    rintro e w1 ⟨A1, c1, rfl, hs1, hc1, hb1⟩
    have HB1 := Lib.hid hb1
    clear hs1 hb1
    go_wp2_with fail
    go_ret3
    exact ret_none HN.out HB1.out
  · rw [htb] at HT HP
    clear htb
    by_cases h128 : L.length = 128
    · have hne : ((L.length : Int) != 128) = false := by rw [h128]; rfl
      rw [if_pos ⟨rfl, h128⟩] at HP
      have HL := Lib.hid h128
      generalize takeL L blocks n = T at *
      clear h128
      go_enter Try.func18, Try.ntmps18
      go_wp2_with fail
      refine HT.out.mono ?_
      rintro e w1 ⟨A1, c1, rfl, hs1, hc1, hb1⟩
      have HS1 := Lib.hid hs1
      have HB1 := Lib.hid hb1
      clear hs1 hb1
      go_wp2_with fail
      have HMAP := Lib.hid (rmap_yes A L HL.out c w1 (by have := HS.out.on (Nat.le_refl _) HB1.out; rwa [HL.out] at this))
      have hw1 := HB1.out.size
      rw [HL.out, show ((128 : Nat) : Int) = 128 from rfl]
      refine HMAP.out.mono ?_
      rintro e w2 ⟨gm, rfl, ho2, hb2⟩
      have hgm := (own_lt ho2 gm rfl).1
      have hgm2 := (own_lt ho2 gm rfl).2
      have HO2 := Lib.hid ho2
      have HB2 := Lib.hid hb2
      have hw2 := hb2.size
      clear ho2 hb2
      go_wp2_with (at_builtin; refine wpList_append_mine rfl _ (.tmp 34) _ _ rfl w2.heap.size 4 i0 (.bool false) 1 1 hz1 hz2 rfl (by decide) _ _ _ rfl Mine.nil _ 1024 ((mapF (bitN L)).map Value.bool) rfl (Gives.slice Try.underlying32 hi hz0 (by rw [hz1]; exact Sl.own HO2.out) (tv_one _)) (by simp only [maxLen]; omega) (by omega) (Nat.le_refl _) ?_; intro A3 c3 w3 hm3 hg3 hb3 hat3 hown3)
      have ho3 := hown3 (.inl (by decide))
      simp only [Nat.zero_add, List.nil_append] at ho3
      have hv3 := ho3.2
      rcases hv3 with ⟨hv, _⟩ | ⟨g, cap, cur, hv, hgb, hgg, _⟩
      · injection hv with _ h _
        omega
      obtain ⟨rfl, rfl⟩ : A3 = some ⟨g, 0, none⟩ ∧ c3 = cap := by injection hv with h1 _ h2; exact ⟨h1, h2⟩
      have HO3 := Lib.hid (ho3.mono hw2)
      have HOM3 := Lib.hid (own_bel HO2.out hb3)
      have hB3 := HB2.out.trans (Below.mono hb3 HB2.out.size)
      have HBB3 := Lib.hid hB3
      have hne : gm < g := by omega
      have hgw : w1.heap.size ≤ g := by omega
      clear hm3 hg3 hb3 hat3 hown3 ho3 hgg hv hB3
      go_wp2_with fail
      go_loopw [15] (fun iv wr => ∃ (i : Nat) (M : List UInt8), i ≤ gone.length ∧ iv = .int .i64 (i : Int) ∧ goneM blocks L gone = goneM blocks M (gone.drop i) ∧ M.length = 128 ∧ wr.ownsRow w1.heap.size 4 1 (.slice (some ⟨g, 0, none⟩) 1024 c3) 1024 ((mapF (bitN M)).map Value.bool) ∧ wr.ownsRow w1.heap.size 4 1 (.slice (some ⟨gm, 0, none⟩) 1024 1024) 1024 ((mapF (bitN M)).map Value.bool) ∧ Below w1.heap.size w1 wr) (fun i _ => gone.length - (intOf i).toNat)
      case atStart => exact ⟨0, L, by omega, rfl, rfl, HL.out, HO3.out, HOM3.out, HBB3.out⟩
      case round =>
        obtain ⟨i, M, hi2, rfl, hgo, hM, hown, hownm, hbel⟩ := hrel
        have HGO := Lib.hid hgo
        have HM := Lib.hid hM
        have HO := Lib.hid hown
        have HOM := Lib.hid hownm
        have HB := Lib.hid hbel
        clear hgo hM hown hownm hbel
        by_cases hlt : i < gone.length
        · have hltI : (i : Int) < (gone.length : Int) := by omega
          have hi0 : (0 : Int) ≤ (i : Int) := by omega
          obtain ⟨z, hz⟩ : ∃ z, gone[i]? = some z := ⟨_, List.getElem?_eq_getElem hlt⟩
          obtain ⟨b5, off5, rfl, hbb5, hcell5⟩ := (HG.out.on (Nat.le_refl _) (HB1.out.trans (Below.mono HB.out hw1))).at (by omega) (by decide)
          have hck5 := hcell5 i (.int .i64 z) (by rw [List.getElem?_map, hz]; rfl)
          have HX0 := Lib.hid (HGO.out.trans (gone_drop hz blocks M))
          clear hz hbb5 hcell5
          by_cases k1 : z < 74
          · have HX : Hid (goneM blocks L gone = none) := Lib.hid (by rw [HX0.out, if_neg (by omega)])
            go_wp2_with fail
            go_ret3
            exact ret_none (by rw [HP.out, HX.out]; rfl) (HB1.out.trans (Below.mono HB.out hw1))
          · by_cases k2 : blocks ≤ z
            · have HX : Hid (goneM blocks L gone = none) := Lib.hid (by rw [HX0.out, if_neg (by omega)])
              go_wp2_with fail
              go_ret3
              exact ret_none (by rw [HP.out, HX.out]; rfl) (HB1.out.trans (Below.mono HB.out hw1))
            · obtain ⟨x, rfl⟩ := Int.eq_ofNat_of_zero_le (show 0 ≤ z by omega)
              by_cases k4 : 1024 ≤ x
              · have HX : Hid (goneM blocks L gone = none) := Lib.hid (by rw [HX0.out, if_neg (by omega)])
                have k4I : (1024 : Int) ≤ (x : Int) := by omega
                go_wp2_with fail
                go_ret3
                exact ret_none (by rw [HP.out, HX.out]; rfl) (HB1.out.trans (Below.mono HB.out hw1))
              · have hx1024 : x < 1024 := by omega
                have hxI : (x : Int) < 1024 := by omega
                have hx0 : (0 : Int) ≤ (x : Int) := by omega
                obtain ⟨hcm, hfm⟩ := ownB_there HOM.out x hx1024
                rw [mapF_at _ hx1024] at hcm
                cases hb : bitN M x
                · have HX : Hid (goneM blocks L gone = none) := Lib.hid (by rw [HX0.out, if_neg (by rw [Int.toNat_natCast, hb]; simp)])
                  rw [hb] at hcm
                  clear hb
                  go_wp2_with fail
                  go_ret3
                  exact ret_none (by rw [HP.out, HX.out]; rfl) (HB1.out.trans (Below.mono HB.out hw1))
                · have HX : Hid (goneM blocks L gone = goneM blocks (setB M x false) (gone.drop (i + 1))) := Lib.hid (by rw [HX0.out, if_pos ⟨by omega, by omega, by omega, by rw [Int.toNat_natCast, hb]⟩, Int.toNat_natCast])
                  rw [hb] at hcm
                  have HMS : Hid ((mapF fun i => if i = x then false else bitN M i) = mapF (bitN (setB M x false))) := Lib.hid (mapF_congr fun i _ => (bit_set HM.out hx1024 false i).symm)
                  have hst1 := ownB_set HOM.out x false
                  rw [mapF_set _ hx1024, HMS.out] at hst1
                  have hon1 := own_onlyN HO.out (Only.setCell gm x wr (.bool false)) (by simp [Value.ownBlock]; omega)
                  obtain ⟨w6, hw6⟩ : ∃ w6, w6 = wr.setCell ⟨gm, x, none⟩ (.bool false) := ⟨_, rfl⟩
                  have HW6 := Lib.hid hw6
                  rw [← hw6] at hst1 hon1
                  obtain ⟨hcn, hfn⟩ := ownB_there hon1 x hx1024
                  rw [mapF_at _ hx1024, hb] at hcn
                  have hst2 := ownB_set hon1 x false
                  rw [mapF_set _ hx1024, HMS.out] at hst2
                  have hom2 := own_onlyN hst1 (Only.setCell g x w6 (.bool false)) (by simp [Value.ownBlock]; omega)
                  have hb6 : Below w1.heap.size w1 w6 := by rw [hw6]; exact (Only.setCell gm x wr _).below HB.out hgm
                  have HB6 := Lib.hid ((Only.setCell g x w6 (.bool false)).below hb6 hgw)
                  have HST2 := Lib.hid hst2
                  have HOM2 := Lib.hid hom2
                  rw [hw6] at hcn hfn
                  clear hb hst1 hon1 hst2 hom2 hb6 hw6
                  go_wp2_with fail
                  rw [← HW6.out]
                  exact ⟨⟨i + 1, setB M x false, by omega, by go_num, HX.out, by rw [setB_len]; exact HM.out, HST2.out, HOM2.out, HB6.out⟩, by simp [intOf]; omega⟩
        · have hge : (gone.length : Int) ≤ (i : Int) := by omega
          have HX : Hid (goneM blocks L gone = some M) := Lib.hid (by rw [HGO.out, List.drop_of_length_le (by omega)]; rfl)
          have HM0 : Hid (setT M (T.take 0) = M) := Lib.hid (by rw [List.take_zero]; rfl)
          go_wp2_with fail
          go_loopw [17] (fun jv wq => ∃ j : Nat, j ≤ T.length ∧ jv = .int .i64 (j : Int) ∧ wq.ownsRow w1.heap.size 4 1 (.slice (some ⟨g, 0, none⟩) 1024 c3) 1024 ((mapF (bitN (setT M (T.take j)))).map Value.bool) ∧ Below w1.heap.size w1 wq) (fun j _ => T.length - (intOf j).toNat)
          case atStart => exact ⟨0, by omega, rfl, by rw [HM0.out]; exact HO.out, HB.out⟩
          case round =>
            obtain ⟨j, hj, rfl, hown2, hbel2⟩ := hrel
            have HO2 := Lib.hid hown2
            have HB2 := Lib.hid hbel2
            clear hown2 hbel2
            by_cases hlt2 : j < T.length
            · have hlt2I : (j : Int) < (T.length : Int) := by omega
              have hj0 : (0 : Int) ≤ (j : Int) := by omega
              obtain ⟨x, hx⟩ : ∃ x, T[j]? = some x := ⟨_, List.getElem?_eq_getElem hlt2⟩
              obtain ⟨b5, off5, rfl, hbb5, hcell5⟩ := (Sl.below HS1.out HB2.out).at (by omega) (by decide)
              have hck5 := hcell5 j (.int .i64 x) (by rw [List.getElem?_map, hx]; rfl)
              obtain ⟨x0, x1⟩ := HTM.out x (List.mem_of_getElem? hx)
              obtain ⟨xn, rfl⟩ := Int.eq_ofNat_of_zero_le x0
              have hMj : (setT M (T.take j)).length = 128 := by rw [setT_len, HM.out]
              have hx1024 : xn < 1024 := by omega
              obtain ⟨hcn, hfn⟩ := ownB_there HO2.out xn hx1024
              generalize (mapF (bitN (setT M (T.take j)))).getD xn false = oldb at *
              have hst := ownB_set HO2.out xn true
              rw [mapF_set _ hx1024, show (mapF fun i => if i = xn then true else bitN (setT M (T.take j)) i) = mapF (bitN (setT M (T.take (j + 1)))) from mapF_congr fun i _ => by rw [setT_take (M := M) hx, bit_set hMj hx1024 true i]] at hst
              have HST := Lib.hid hst
              clear hx hbb5 hcell5 hMj hst
              go_wp2_with fail
              exact ⟨⟨j + 1, by omega, by go_num, HST.out, (Only.setCell g xn wr _).below HB2.out hgw⟩, by simp [intOf]; omega⟩
            · have hge2 : (T.length : Int) ≤ (j : Int) := by omega
              obtain rfl : j = T.length := by omega
              rw [List.take_length] at HO2
              have HRB := Lib.hid (rbytes_any (some ⟨g, 0, none⟩) (bitN (setT M T)) c3 wr (Sl.own HO2.out))
              rw [bS_back (by rw [setT_len, HM.out])] at HRB
              go_wp2_with fail
              refine HRB.out.mono ?_
              rintro e w7 ⟨g7, rfl, ho7, hb7⟩
              have HO7 := Lib.hid ho7
              have HB7 := Lib.hid (HB2.out.trans (Below.mono hb7 HB2.out.size))
              clear ho7 hb7
              go_wp2_with fail
              go_ret3
              exact .inr ⟨T, setT M T, A1, c1, _, 128, by rw [HP.out, HX.out]; rfl, rfl, (Sl.below HS1.out HB7.out).more HB7.out.size, hc1, Sl.own HO7.out, by rw [setT_len, HM.out], HB1.out.trans (Below.mono HB7.out hw1)⟩
    · have hne : ((L.length : Int) != 128) = true := by rw [bne_iff_ne]; omega
      have HN : Hid (PM = none) := Lib.hid (by rw [HP.out, if_neg (fun h => h128 h.2)])
      clear h128
      go_enter Try.func18, Try.ntmps18
      go_wp2_with fail
      refine HT.out.mono ?_
      rintro e w1 ⟨A1, c1, rfl, hs1, hc1, hb1⟩
      have HB1 := Lib.hid hb1
      clear hs1 hb1
      go_wp2_with fail
      go_ret3
      exact ret_none HN.out HB1.out
end Go.Proofs.Ytgfhepfikphliaa.Pn
