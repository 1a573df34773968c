/-
  alloc.Plan, and the document's.
-/
import Derived.Test.YtgfhepfikphliaaBit7
namespace Go.Proofs.Ytgfhepfikphliaa.Pn
open Fl Sp Go.RowKit Wd By Bt
set_option linter.unusedVariables false
/-- what is gone is taken out of the map, one by one -/
def goneM (blocks : Int) : List UInt8 → List Int → Option (List UInt8)
  | M, [] => some M
  | M, k :: r => if 74 ≤ k ∧ k < blocks ∧ k < 1024 ∧ bitN M k.toNat = true then goneM blocks (setB M k.toNat false) r else none
def planM (L : List UInt8) (blocks n : Int) (gone : List Int) : Option (List Int × List UInt8) :=
  if takeB L blocks n = true ∧ L.length = 128 then (goneM blocks L gone).map fun M => (takeL L blocks n, setT M (takeL L blocks n)) else none
theorem goneM_len (blocks : Int) : ∀ (g : List Int) (M M' : List UInt8), goneM blocks M g = some M' → M'.length = M.length
  | [], M, M', h => by injection h with h; rw [h]
  | k :: r, M, M', h => by
    unfold goneM at h
    split at h
    · rw [goneM_len blocks r _ _ h, setB_len]
    · cases h
theorem gone_drop {l : List Int} {i : Nat} {k : Int} (h : l[i]? = some k) (blocks : Int) (M : List UInt8) :
    goneM blocks M (l.drop i) = if 74 ≤ k ∧ k < blocks ∧ k < 1024 ∧ bitN M k.toNat = true then goneM blocks (setB M k.toNat false) (l.drop (i + 1)) else none := by
  have hlt : i < l.length := (List.getElem?_eq_some_iff.1 h).1
  have he : l[i] = k := (List.getElem?_eq_some_iff.1 h).2
  rw [List.drop_eq_getElem_cons hlt, he]
  rfl
def PlanR (w : World) (m : Option (List Int × List UInt8)) (e : Ending) (w' : World) : Prop :=
  (m = none ∧ e = .returned (.tuple #[.slice none 0 0, .slice none 0 0, .bool false]) ∧ Below w.heap.size w w') ∨
  ∃ T M A c A2 c2, m = some (T, M) ∧ e = .returned (.tuple #[.slice A T.length c, .slice A2 128 c2, .bool true]) ∧ Sl w' w'.heap.size 1 A T.length (T.map (Value.int .i64)) ∧ T.length ≤ c ∧ Sl w' w'.heap.size 1 A2 128 (M.map bv) ∧ M.length = 128 ∧ Below w.heap.size w w'
theorem setT_take {M : List UInt8} {T : List Int} {j : Nat} {x : Nat} (h : T[j]? = some (x : Int)) : setT M (T.take (j + 1)) = setB (setT M (T.take j)) x true := by
  rw [List.take_add_one, h]
  exact setT_snoc _ _ _
theorem ret_none {w w' : World} {m : Option (List Int × List UInt8)} (h : m = none) (hb : Below w.heap.size w w') : PlanR w m (.returned (.tuple #[.slice none 0 0, .slice none 0 0, .bool false])) w' := .inl ⟨h, rfl, hb⟩
set_option maxRecDepth 50000 in
set_option maxHeartbeats 1600000 in
theorem plan_any (A : Option Addr) (L : List UInt8) (c : Nat) (blocks n : Int) (Ag : Option Addr) (gone : List Int) (cg : Nat) (w : World) (hs : Sl w w.heap.size 1 A L.length (L.map bv)) (hlc : L.length ≤ c) (hk : L.length ≤ 140737488355328)
    (hg : Sl w w.heap.size 1 Ag gone.length (gone.map (Value.int .i64))) (hgk : gone.length ≤ 17592186044416) :
    Calls Try.prog 17 #[.slice A L.length c, .int .i64 blocks, .int .i64 n, .slice Ag gone.length cg] w (PlanR w (planM L blocks n gone)) := by
  obtain ⟨i0, hi, hz0, hz1, hz2⟩ := info_parts infoB
  have HT := Lib.hid (take_any A L c blocks n w hs hlc)
  have HTM := Lib.hid (take_mem L blocks n)
  have HS := Lib.hid hs
  have HG := Lib.hid hg
  have HP : Hid (planM L blocks n gone = if takeB L blocks n = true ∧ L.length = 128 then (goneM blocks L gone).map fun M => (takeL L blocks n, setT M (takeL L blocks n)) else none) := rfl
  have htl : (takeL L blocks n).length ≤ 1024 := by
    have := frees_len L blocks (top blocks)
    have := top_le blocks
    rw [takeL_form, List.length_take]; omega
  obtain ⟨PM, hPM⟩ : ∃ m, m = planM L blocks n gone := ⟨_, rfl⟩
  rw [← hPM] at HP ⊢
  clear hs hg hPM
  cases htb : takeB L blocks n
  · rw [htb] at HT HP
    have HN : Hid (PM = none) := Lib.hid (by rw [HP.out, if_neg (by simp)])
    clear htb
    go_enter Try.func17, Try.ntmps17
    go_wp2_with fail
    refine HT.out.mono ?_
    rintro e w1 ⟨A1, c1, rfl, hs1, hc1, _, hb1⟩
    have HB1 := Lib.hid hb1
    clear hs1 hb1
    go_wp2_with fail
    go_ret3
    exact ret_none HN.out HB1.out
  · rw [htb] at HT HP
    clear htb
    by_cases h128 : L.length = 128
    · have hne : ((L.length : Int) != 128) = false := by rw [h128]; rfl
      rw [if_pos ⟨rfl, h128⟩] at HP
      have HL := Lib.hid h128
      generalize takeL L blocks n = T at *
      clear h128
      go_enter Try.func17, Try.ntmps17
      go_wp2_with fail
      refine HT.out.mono ?_
      rintro e w1 ⟨A1, c1, rfl, hs1, hc1, _, hb1⟩
      have HS1 := Lib.hid hs1
      have HB1 := Lib.hid hb1
      clear hs1 hb1
      go_wp2_with (at_builtin; refine wpList_append_mine rfl _ (.tmp 32) _ _ rfl w1.heap.size 5 i0 (.int .u8 0) 1 1 hz1 hz2 rfl (by decide) _ _ _ rfl Mine.nil _ L.length (L.map bv) rfl (Gives.slice Try.underlying38 hi hz0 (by rw [hz1]; exact HS.out.on (Nat.le_refl _) HB1.out) (bv_one L)) (by simp only [maxLen]; omega) (by omega) (Nat.le_refl _) ?_; intro A3 c3 w3 hm3 hg3 hb3 hat3 hown3)
      have ho3 := hown3 (.inl (by have := HL.out; omega))
      simp only [Nat.zero_add, List.nil_append, HL.out] at ho3
      have hv3 := ho3.2
      rcases hv3 with ⟨hv, _⟩ | ⟨g, cap, cur, hv, hgb, hgg, _⟩
      · injection hv with _ h _
        omega
      obtain ⟨rfl, rfl⟩ : A3 = some ⟨g, 0, none⟩ ∧ c3 = cap := by injection hv with h1 _ h2; exact ⟨h1, h2⟩
      have HO3 := Lib.hid ho3
      have HB3 := Lib.hid (HB1.out.trans (Below.mono hb3 HB1.out.size))
      have HS3 := Lib.hid (HS1.out.on (Nat.le_refl _) hb3)
      have hgw : w.heap.size ≤ g := Nat.le_trans HB1.out.size hgb
      have HT3 := Lib.hid (Sl.below HS1.out hb3)
      have HBB3 := Lib.hid hb3
      have hw1 := HB1.out.size
      clear hm3 hg3 hb3 hat3 hown3 ho3 hgg hv
      go_wp2_with fail
      rw [HL.out, show ((128 : Nat) : Int) = 128 from rfl]
      go_loopw [36] (fun iv wr => ∃ (i : Nat) (M : List UInt8), i ≤ gone.length ∧ iv = .int .i64 (i : Int) ∧ goneM blocks L gone = goneM blocks M (gone.drop i) ∧ M.length = 128 ∧ wr.ownsRow w1.heap.size 5 1 (.slice (some ⟨g, 0, none⟩) 128 c3) 128 (M.map bv) ∧ Below w1.heap.size w1 wr) (fun i _ => gone.length - (intOf i).toNat)
      case atStart => exact ⟨0, L, by omega, rfl, rfl, HL.out, HO3.out, HBB3.out⟩
      case round =>
        obtain ⟨i, M, hi2, rfl, hgo, hM, hown, hbel⟩ := hrel
        have HGO := Lib.hid hgo
        have HM := Lib.hid hM
        have HO := Lib.hid hown
        have HB := Lib.hid hbel
        clear hgo hM hown hbel
        by_cases hlt : i < gone.length
        · have hltI : (i : Int) < (gone.length : Int) := by omega
          have hi0 : (0 : Int) ≤ (i : Int) := by omega
          obtain ⟨z, hz⟩ : ∃ z, gone[i]? = some z := ⟨_, List.getElem?_eq_getElem hlt⟩
          obtain ⟨b5, off5, rfl, hbb5, hcell5⟩ := (HG.out.on (Nat.le_refl _) (HB1.out.trans (Below.mono HB.out hw1))).at (by omega) (by decide)
          have hck5 := hcell5 i (.int .i64 z) (by rw [List.getElem?_map, hz]; rfl)
          have HX0 := Lib.hid (HGO.out.trans (gone_drop hz blocks M))
          clear hz hbb5 hcell5
          by_cases c1 : z < 74
          · have HX : Hid (goneM blocks L gone = none) := Lib.hid (by rw [HX0.out, if_neg (by omega)])
            go_wp2_with fail
            go_ret3
            exact ret_none (by rw [HP.out, HX.out]; rfl) (HB1.out.trans (Below.mono HB.out hw1))
          · by_cases c2 : blocks ≤ z
            · have HX : Hid (goneM blocks L gone = none) := Lib.hid (by rw [HX0.out, if_neg (by omega)])
              go_wp2_with fail
              go_ret3
              exact ret_none (by rw [HP.out, HX.out]; rfl) (HB1.out.trans (Below.mono HB.out hw1))
            · obtain ⟨x, rfl⟩ := Int.eq_ofNat_of_zero_le (show 0 ≤ z by omega)
              by_cases c4 : 1024 ≤ x
              · have HX : Hid (goneM blocks L gone = none) := Lib.hid (by rw [HX0.out, if_neg (by omega)])
                have hnone : isNone M (x : Int) := .inr (.inr (by omega))
                have UU := Lib.hid (used_no (some ⟨g, 0, none⟩) M c3 (x : Int) wr hnone)
                have SS := Lib.hid (set_no false (some ⟨g, 0, none⟩) M c3 (x : Int) wr hnone)
                rw [HM.out] at UU SS
                have c4I : (1024 : Int) ≤ (x : Int) := by omega
                clear hnone
                go_wp2_with fail
                refine UU.out.mono ?_
                rintro e w' ⟨rfl, rfl⟩
                go_wp2_with fail
                refine SS.out.mono ?_
                rintro e w' ⟨rfl, rfl⟩
                go_wp2_with fail
                go_ret3
                exact ret_none (by rw [HP.out, HX.out]; rfl) (HB1.out.trans (Below.mono HB.out hw1))
              · have hx1024 : x < 1024 := by omega
                have UU := Lib.hid (used_any (some ⟨g, 0, none⟩) M c3 (x : Int) wr (by rw [HM.out]; exact Sl.own HO.out))
                rw [used_bit HM.out hx1024, HM.out] at UU
                cases hb : bitN M x
                · have HX : Hid (goneM blocks L gone = none) := Lib.hid (by rw [HX0.out, if_neg (by rw [Int.toNat_natCast, hb]; simp)])
                  rw [hb] at UU
                  clear hb
                  go_wp2_with fail
                  refine UU.out.mono ?_
                  rintro e w' ⟨rfl, rfl⟩
                  go_wp2_with fail
                  go_ret3
                  exact ret_none (by rw [HP.out, HX.out]; rfl) (HB1.out.trans (Below.mono HB.out hw1))
                · have HX : Hid (goneM blocks L gone = goneM blocks (setB M x false) (gone.drop (i + 1))) := Lib.hid (by rw [HX0.out, if_pos ⟨by omega, by omega, by omega, by rw [Int.toNat_natCast, hb]⟩, Int.toNat_natCast])
                  rw [hb] at UU
                  have SS := Lib.hid (set_any false w1.heap.size g c3 x M HM.out hx1024 wr HO.out)
                  clear hb
                  go_wp2_with fail
                  refine UU.out.mono ?_
                  rintro e w' ⟨rfl, rfl⟩
                  go_wp2_with fail
                  refine SS.out.mono ?_
                  rintro e w6 ⟨rfl, ho6, hon6⟩
                  have HO6 := Lib.hid ho6
                  have HB6 := Lib.hid (hon6.below HB.out hgb)
                  clear ho6 hon6
                  go_wp2_with fail
                  go_roundw
                  case rel => exact ⟨i + 1, setB M x false, by omega, by go_num, HX.out, by rw [setB_len]; exact HM.out, HO6.out, HB6.out⟩
                  case measure => simp [intOf]; omega
        · have hge : (gone.length : Int) ≤ (i : Int) := by omega
          have HX : Hid (goneM blocks L gone = some M) := Lib.hid (by rw [HGO.out, List.drop_of_length_le (by omega)]; rfl)
          have HTR := Lib.hid (Sl.below HS1.out HB.out)
          have HM0 : Hid (setT M (T.take 0) = M) := Lib.hid (by rw [List.take_zero]; rfl)
          go_wp2_with fail
          go_loopw [62] (fun jv wq => ∃ j : Nat, j ≤ T.length ∧ jv = .int .i64 (j : Int) ∧ wq.ownsRow w1.heap.size 5 1 (.slice (some ⟨g, 0, none⟩) 128 c3) 128 ((setT M (T.take j)).map bv) ∧ Below w1.heap.size w1 wq) (fun j _ => T.length - (intOf j).toNat)
          case atStart => exact ⟨0, by omega, rfl, by rw [HM0.out]; exact HO.out, HB.out⟩
          case round =>
            obtain ⟨j, hj, rfl, hown2, hbel2⟩ := hrel
            have HO2 := Lib.hid hown2
            have HB2 := Lib.hid hbel2
            clear hown2 hbel2
            by_cases hlt2 : j < T.length
            · have hlt2I : (j : Int) < (T.length : Int) := by omega
              have hj0 : (0 : Int) ≤ (j : Int) := by omega
              obtain ⟨x, hx⟩ : ∃ x, T[j]? = some x := ⟨_, List.getElem?_eq_getElem hlt2⟩
              obtain ⟨b5, off5, rfl, hbb5, hcell5⟩ := (Sl.below HS1.out HB2.out).at (by omega) (by decide)
              have hck5 := hcell5 j (.int .i64 x) (by rw [List.getElem?_map, hx]; rfl)
              obtain ⟨x0, x1⟩ := HTM.out x (List.mem_of_getElem? hx)
              obtain ⟨xn, rfl⟩ := Int.eq_ofNat_of_zero_le x0
              have hMj : (setT M (T.take j)).length = 128 := by rw [setT_len, HM.out]
              have SX := Lib.hid (set_any true w1.heap.size g c3 xn (setT M (T.take j)) hMj (by omega) wr HO2.out)
              have HSN := Lib.hid (setT_take (M := M) hx)
              clear hx hbb5 hcell5 hMj
              go_wp2_with fail
              refine SX.out.mono ?_
              rintro e w6 ⟨rfl, ho6, hon6⟩
              have HO6 := Lib.hid ho6
              have HB6 := Lib.hid (hon6.below HB2.out hgb)
              clear ho6 hon6
              go_wp2_with fail
              go_roundw
              case rel => exact ⟨j + 1, by omega, by go_num, by rw [HSN.out]; exact HO6.out, HB6.out⟩
              case measure => simp [intOf]; omega
            · have hge2 : (T.length : Int) ≤ (j : Int) := by omega
              obtain rfl : j = T.length := by omega
              rw [List.take_length] at HO2
              go_wp2_with fail
              go_ret3
              exact .inr ⟨T, setT M T, A1, c1, _, c3, by rw [HP.out, HX.out]; rfl, rfl, (Sl.below HS1.out HB2.out).more HB2.out.size, hc1, Sl.own HO2.out, by rw [setT_len, HM.out], HB1.out.trans (Below.mono HB2.out hw1)⟩
    · have hne : ((L.length : Int) != 128) = true := by rw [bne_iff_ne]; omega
      have HN : Hid (PM = none) := Lib.hid (by rw [HP.out, if_neg (fun h => h128 h.2)])
      clear h128
      go_enter Try.func17, Try.ntmps17
      go_wp2_with fail
      refine HT.out.mono ?_
      rintro e w1 ⟨A1, c1, rfl, hs1, hc1, _, hb1⟩
      have HB1 := Lib.hid hb1
      clear hs1 hb1
      go_wp2_with fail
      go_ret3
      exact ret_none HN.out HB1.out
end Go.Proofs.Ytgfhepfikphliaa.Pn
