/-
  'BitsTakes' walked: what is taken, and set, is taken no more.
-/
import Derived.Test.YtipdaecihfkonaaBit5
import Derived.Test.YtipdaecihfkonaaPlace
namespace Go.Proofs.Ytipdaecihfkonaa.Bt
open Go.RowKit Wd By Sp Fl Ga Pl
set_option linter.unusedVariables false
set_option maxRecDepth 50000 in
set_option maxHeartbeats 3200000 in
theorem takes_walk (Ao : Option Addr) (old : List UInt8) (co : Nat) (An : Option Addr) (ns : List Int) (cn : Nat) (w : World)
    (ho : Sl w w.heap.size 1 Ao old.length (old.map bv)) (hco : old.length ≤ co) (hod : old.length ≤ 140737488355328)
    (hn : Sl w w.heap.size 1 An ns.length (ns.map (Value.int .i64))) (hcn : ns.length ≤ cn) (hnd : ns.length ≤ 17592186044416) (hnb : ∀ x ∈ ns, -9223372036854775808 ≤ x ∧ x ≤ 9223372036854775807) :
    Calls Try.prog 8 #[.slice Ao old.length co, .slice An ns.length cn] w fun e w' => e = .returned (.bool true) ∧ Below w.heap.size w w' := by
  have HO0 := Lib.hid ho
  have HN0 := Lib.hid hn
  have HNB := Lib.hid hnb
  clear ho hn hnb
  have hov : (over old (List.replicate 128 0)).length = 128 := by rw [over_len]; simp
  obtain ⟨L, hL⟩ : ∃ L, L = over old (List.replicate 128 0) := ⟨_, rfl⟩
  rw [← hL] at hov
  have HLE := Lib.hid hL
  have HOV := Lib.hid hov
  clear hL hov
  have CT : Hid (∀ (M : List UInt8), M.length = 128 → ∀ (A : Option Addr) (k : Int) (w : World), Sl w w.heap.size 1 A 128 (M.map bv) → Calls Try.prog 20 #[.slice A 128 128, .int .i64 200, .int .i64 k] w (TakeR w (takeL M 200 k) (takeB M 200 k))) :=
    Lib.hid fun M hM A k w hs => by have := take_any A M 128 200 k w (by rw [hM]; exact hs) (by omega); rwa [hM] at this
  have CF : Hid (∀ (M : List UInt8), M.length = 128 → ∀ (A : Option Addr) (w : World), Sl w w.heap.size 1 A 128 (M.map bv) → Calls Try.prog 18 #[.slice A 128 128, .int .i64 200] w fun e w' => e = .returned (.int .i64 ((frees M 200 (top 200)).length : Int)) ∧ Below w.heap.size w w') :=
    Lib.hid fun M hM A w hs => by have := free_any A M 128 200 w (by rw [hM]; exact hs) (by omega); rwa [hM] at this
  have CU : Hid (∀ (M : List UInt8), M.length = 128 → ∀ (A : Option Addr) (j : Int) (w : World), Sl w w.heap.size 1 A 128 (M.map bv) → Calls Try.prog 17 #[.slice A 128 128, .int .i64 j] w fun e w' => e = .returned (.bool (usedB M j)) ∧ w = w') :=
    Lib.hid fun M hM A j w hs => by have := used_any A M 128 j w (by rw [hM]; exact hs); rwa [hM] at this
  go_enter Try.func8, Try.ntmps8
  go_wp2_with (first
    | (refine wpList_make_bytes rfl _ _ rfl 128 (by decide) rfl rfl ?_; intro w2 hmk hmb hmlt)
    | (refine wpList_copy_bytes rfl _ _ rfl (M := List.replicate 128 0) (l := old) (by simp) rfl rfl hmk (HO0.out.on (Nat.le_refl _) hmb) ?_; intro w1 v1 hcp hon; rw [← HLE.out] at hcp))
  have HB1 := Lib.hid (hon.below hmb (Nat.le_refl _))
  have HO1 := Lib.hid hcp
  have hlt0 : w.heap.size < w1.heap.size := Nat.lt_of_lt_of_le hmlt hon.size
  clear hcp hon hmk hmb
  obtain ⟨g, hg⟩ : ∃ g, g = w.heap.size := ⟨_, rfl⟩
  rw [← hg] at HO1 hlt0 ⊢
  have HG := Lib.hid hg
  clear hg
  refine (CF.out L HOV.out _ _ (Sl.own HO1.out)).mono ?_
  rintro e w3 ⟨rfl, hb3⟩
  have HO3 := Lib.hid (own_bel HO1.out hb3)
  have HB3 := Lib.hid (HB1.out.trans (Below.mono hb3 HB1.out.size))
  clear hb3
  have hfl := frees_len L 200 (top 200)
  have htl := top_le 200
  go_wp2_with fail
  go_loopw [7, 6] (fun iv fv wr => ∃ (i : Nat) (M : List UInt8), i ≤ ns.length ∧ iv = .int .i64 (i : Int) ∧ fv = .int .i64 ((frees M 200 (top 200)).length : Int) ∧ M.length = 128 ∧ wr.ownsRow g 5 1 (.slice (some ⟨g, 0, none⟩) 128 128) 128 (M.map bv) ∧ Below w.heap.size w wr) (fun i _ _ => ns.length - (intOf i).toNat)
  case atStart => exact ⟨0, L, by omega, rfl, rfl, HOV.out, HO3.out, HB3.out⟩
  case round =>
    obtain ⟨i, M, hi, rfl, rfl, hM, hown, hbel⟩ := hrel
    have HM := Lib.hid hM
    have HO := Lib.hid hown
    have HB := Lib.hid hbel
    have hfl := frees_len M 200 (top 200)
    have hlow : g < wr.heap.size := by
      have := hown.2
      rcases this with ⟨h, _⟩ | ⟨g', cap, cur, h, _, hh, _⟩
      · cases h
      · injection h with h
        injection h with h
        injection h with h
        rw [h]
        exact (Array.getElem?_eq_some_iff.1 hh).1
    clear hM hown hbel
    by_cases hlt : i < ns.length ∧ i < 30
    · obtain ⟨hlt, hlt3⟩ := hlt
      have hltI : (i : Int) < (ns.length : Int) := by omega
      have hlt3I : (i : Int) < 30 := by omega
      have hi0 : (0 : Int) ≤ (i : Int) := by omega
      obtain ⟨z, hz⟩ : ∃ z, ns[i]? = some z := ⟨_, List.getElem?_eq_getElem hlt⟩
      obtain ⟨b, off, rfl, hbb, hcell⟩ := (HN0.out.on (Nat.le_refl _) HB.out).at (by omega) (by decide)
      have hck := hcell i (.int .i64 z) (by rw [List.getElem?_map, hz]; rfl)
      obtain ⟨z1, z2⟩ := HNB.out z (List.mem_of_getElem? hz)
      have P1 := Lib.hid (fun w => place_any z 20 w (by omega) (by omega) z1 z2)
      obtain ⟨p0, p1⟩ := place_bd z 20 (by omega)
      generalize placeZ z 20 = k at *
      clear hz hbb hcell z1 z2
      have htb : takeB M 200 k = decide (k ≤ ((frees M 200 (top 200)).length : Int)) := by unfold takeB; simp [p0]
      have HTL := Lib.hid (takeL_len M 200 k)
      have HFT := Lib.hid (frees_taken HM.out 200 k)
      have HFX := Lib.hid (fun j x => taken_free (M := M) HM.out 200 k (j := j) (x := x))
      have HTM := Lib.hid (take_mem M 200 k)
      have CTK := Lib.hid (CT.out M HM.out _ k wr (Sl.own HO.out))
      have htll : (takeL M 200 k).length ≤ 1024 := by
        rw [takeL_form, List.length_take]; omega
      rw [htb] at HTL HFT CTK
      clear htb
      obtain ⟨T, hT⟩ : ∃ T, T = takeL M 200 k := ⟨_, rfl⟩
      rw [← hT] at HTL HFT HFX HTM CTK htll
      clear hT
      obtain ⟨F, hF⟩ : ∃ F, F = (frees M 200 (top 200)).length := ⟨_, rfl⟩
      rw [← hF] at hfl HTL HFT CTK ⊢
      clear hF
      have hMT : (setT M T).length = 128 := by rw [setT_len, HM.out]
      have HMT := Lib.hid hMT
      have HT0 : Hid (setT M (T.take 0) = M) := Lib.hid (by rw [List.take_zero]; rfl)
      have HTT : Hid (setT M (T.take T.length) = setT M T) := Lib.hid (by rw [List.take_length])
      have CFK := Lib.hid (CF.out _ hMT)
      rw [HFT.out] at CFK
      clear hMT
      have hkF : (decide (k ≤ (F : Int)) = true ∧ (T.length : Int) = k) ∨ decide (k ≤ (F : Int)) = false := by
        cases h : decide (k ≤ (F : Int))
        · exact .inr rfl
        · exact .inl ⟨rfl, HTL.out h⟩
      clear HTL
      rcases hkF with ⟨hb, hTk⟩ | hb
      · have hne : ((T.length : Int) != k) = false := by simp [hTk]
        have hkF : k ≤ (F : Int) := of_decide_eq_true hb
        rw [hb] at CTK
        rw [if_pos hb] at CFK HFT
        clear hTk hb
        go_wp2_with fail
        refine (P1.out _).mono ?_
        rintro e w' ⟨rfl, rfl⟩
        go_wp2_with fail
        refine CTK.out.mono ?_
        rintro e w4 ⟨A4, c4, rfl, hs4, hc4, ho4, hb4⟩
        have HT4 := Lib.hid ho4
        have HO4 := Lib.hid (own_bel HO.out hb4)
        have HB4 := Lib.hid (HB.out.trans (Below.mono hb4 HB.out.size))
        clear hs4 ho4 hb4
        go_wp2_with fail
        go_loopw [11] (fun jv wq => ∃ j : Nat, j ≤ T.length ∧ jv = .int .i64 (j : Int) ∧ wq.ownsRow g 5 1 (.slice (some ⟨g, 0, none⟩) 128 128) 128 ((setT M (T.take j)).map bv) ∧ wq.ownsRow wr.heap.size 3 1 (.slice A4 T.length c4) T.length (T.map (Value.int .i64)) ∧ Below w.heap.size w wq) (fun j _ => T.length - (intOf j).toNat)
        case atStart => exact ⟨0, by omega, rfl, by rw [HT0.out]; exact HO4.out, HT4.out, HB4.out⟩
        case round =>
          obtain ⟨j, hj, rfl, hown2, hrow2, hbel2⟩ := hrel
          have HO2 := Lib.hid hown2
          have HR2 := Lib.hid hrow2
          have HB2 := Lib.hid hbel2
          clear hown2 hrow2 hbel2
          by_cases hlt2 : j < T.length
          · have hlt2I : (j : Int) < (T.length : Int) := by omega
            have hj0 : (0 : Int) ≤ (j : Int) := by omega
            obtain ⟨x, hx⟩ : ∃ x, T[j]? = some x := ⟨_, List.getElem?_eq_getElem hlt2⟩
            obtain ⟨b5, off5, rfl, hbb5, hcell5⟩ := (Sl.own HR2.out).at (by omega) (by decide)
            have hck5 := hcell5 j (.int .i64 x) (by rw [List.getElem?_map, hx]; rfl)
            obtain ⟨x0, x1⟩ := HTM.out x (List.mem_of_getElem? hx)
            have hMj : (setT M (T.take j)).length = 128 := by rw [setT_len, HM.out]
            have U := Lib.hid (CU.out _ hMj _ x wr (Sl.own HO2.out))
            rw [HFX.out j x hx] at U
            obtain ⟨xn, rfl⟩ := Int.eq_ofNat_of_zero_le x0
            have SX := Lib.hid (set_any true g g 128 xn (setT M (T.take j)) hMj (by omega) wr HO2.out)
            have HSN : Hid (setT M (T.take (j + 1)) = setB (setT M (T.take j)) xn true) := Lib.hid (by rw [List.take_add_one, hx]; exact setT_snoc _ _ _)
            clear hx hbb5 hcell5 hMj
            go_wp2_with fail
            refine U.out.mono ?_
            rintro e w' ⟨rfl, rfl⟩
            go_wp2_with fail
            refine SX.out.mono ?_
            rintro e w6 ⟨rfl, ho6, hon6⟩
            have HO6 := Lib.hid ho6
            have HR6 := Lib.hid (own_only HR2.out hon6 hlow)
            have HB6 := Lib.hid (hon6.below HB2.out (Nat.le_of_eq HG.out.symm))
            clear ho6 hon6
            go_wp2_with fail
            go_roundw
            case rel => exact ⟨j + 1, by omega, by go_num, by rw [HSN.out]; exact HO6.out, HR6.out, HB6.out⟩
            case measure => simp [intOf]; omega
          · have hge2 : (T.length : Int) ≤ (j : Int) := by omega
            obtain rfl : j = T.length := by omega
            rw [HTT.out] at HO2
            have HOF := HO2
            have HBQ := HB2
            go_wp2_with fail
            refine (CFK.out _ _ (Sl.own HOF.out)).mono ?_
            rintro e w7 ⟨rfl, hb7⟩
            have HO7 := Lib.hid (own_bel HOF.out hb7)
            have HB7 := Lib.hid (HBQ.out.trans (Below.mono hb7 HBQ.out.size))
            clear hb7
            go_wp2_with fail
            go_roundw
            case rel => exact ⟨i + 1, setT M T, by omega, by go_num, by rw [HFT.out], HMT.out, HO7.out, HB7.out⟩
            case measure => simp [intOf]; omega
      · have hkF : ¬ (k ≤ (F : Int)) := of_decide_eq_false hb
        rw [hb] at CTK
        rw [if_neg (by rw [hb]; decide)] at CFK HFT
        clear hb
        go_wp2_with fail
        refine (P1.out _).mono ?_
        rintro e w' ⟨rfl, rfl⟩
        go_wp2_with fail
        refine CTK.out.mono ?_
        rintro e w4 ⟨A4, c4, rfl, hs4, hc4, ho4, hb4⟩
        have HT4 := Lib.hid ho4
        have HO4 := Lib.hid (own_bel HO.out hb4)
        have HB4 := Lib.hid (HB.out.trans (Below.mono hb4 HB.out.size))
        clear hs4 ho4 hb4
        go_wp2_with fail
        go_loopw [11] (fun jv wq => ∃ j : Nat, j ≤ T.length ∧ jv = .int .i64 (j : Int) ∧ wq.ownsRow g 5 1 (.slice (some ⟨g, 0, none⟩) 128 128) 128 ((setT M (T.take j)).map bv) ∧ wq.ownsRow wr.heap.size 3 1 (.slice A4 T.length c4) T.length (T.map (Value.int .i64)) ∧ Below w.heap.size w wq) (fun j _ => T.length - (intOf j).toNat)
        case atStart => exact ⟨0, by omega, rfl, by rw [HT0.out]; exact HO4.out, HT4.out, HB4.out⟩
        case round =>
          obtain ⟨j, hj, rfl, hown2, hrow2, hbel2⟩ := hrel
          have HO2 := Lib.hid hown2
          have HR2 := Lib.hid hrow2
          have HB2 := Lib.hid hbel2
          clear hown2 hrow2 hbel2
          by_cases hlt2 : j < T.length
          · have hlt2I : (j : Int) < (T.length : Int) := by omega
            have hj0 : (0 : Int) ≤ (j : Int) := by omega
            obtain ⟨x, hx⟩ : ∃ x, T[j]? = some x := ⟨_, List.getElem?_eq_getElem hlt2⟩
            obtain ⟨b5, off5, rfl, hbb5, hcell5⟩ := (Sl.own HR2.out).at (by omega) (by decide)
            have hck5 := hcell5 j (.int .i64 x) (by rw [List.getElem?_map, hx]; rfl)
            obtain ⟨x0, x1⟩ := HTM.out x (List.mem_of_getElem? hx)
            have hMj : (setT M (T.take j)).length = 128 := by rw [setT_len, HM.out]
            have U := Lib.hid (CU.out _ hMj _ x wr (Sl.own HO2.out))
            rw [HFX.out j x hx] at U
            obtain ⟨xn, rfl⟩ := Int.eq_ofNat_of_zero_le x0
            have SX := Lib.hid (set_any true g g 128 xn (setT M (T.take j)) hMj (by omega) wr HO2.out)
            have HSN : Hid (setT M (T.take (j + 1)) = setB (setT M (T.take j)) xn true) := Lib.hid (by rw [List.take_add_one, hx]; exact setT_snoc _ _ _)
            clear hx hbb5 hcell5 hMj
            go_wp2_with fail
            refine U.out.mono ?_
            rintro e w' ⟨rfl, rfl⟩
            go_wp2_with fail
            refine SX.out.mono ?_
            rintro e w6 ⟨rfl, ho6, hon6⟩
            have HO6 := Lib.hid ho6
            have HR6 := Lib.hid (own_only HR2.out hon6 hlow)
            have HB6 := Lib.hid (hon6.below HB2.out (Nat.le_of_eq HG.out.symm))
            clear ho6 hon6
            go_wp2_with fail
            go_roundw
            case rel => exact ⟨j + 1, by omega, by go_num, by rw [HSN.out]; exact HO6.out, HR6.out, HB6.out⟩
            case measure => simp [intOf]; omega
          · have hge2 : (T.length : Int) ≤ (j : Int) := by omega
            obtain rfl : j = T.length := by omega
            rw [HTT.out] at HO2
            have HOF := HO2
            have HBQ := HB2
            go_wp2_with fail
            refine (CFK.out _ _ (Sl.own HOF.out)).mono ?_
            rintro e w7 ⟨rfl, hb7⟩
            have HO7 := Lib.hid (own_bel HOF.out hb7)
            have HB7 := Lib.hid (HBQ.out.trans (Below.mono hb7 HBQ.out.size))
            clear hb7
            go_wp2_with fail
            go_roundw
            case rel => exact ⟨i + 1, setT M T, by omega, by go_num, by rw [HFT.out], HMT.out, HO7.out, HB7.out⟩
            case measure => simp [intOf]; omega
    · by_cases hlt2 : i < ns.length
      · have hltI : (i : Int) < (ns.length : Int) := by omega
        have hge : (30 : Int) ≤ (i : Int) := by omega
        clear hlt
        go_wp2_with fail
        refine (awake_any _).mono ?_
        rintro e w7 ⟨rfl, hb7⟩
        have HB7 := Lib.hid (HB.out.trans (Below.mono hb7 HB.out.size))
        clear hb7
        go_wp2_with fail
        go_ret
        exact ⟨rfl, HB7.out⟩
      · have hge : (ns.length : Int) ≤ (i : Int) := by omega
        clear hlt
        go_wp2_with fail
        refine (awake_any _).mono ?_
        rintro e w7 ⟨rfl, hb7⟩
        have HB7 := Lib.hid (HB.out.trans (Below.mono hb7 HB.out.size))
        clear hb7
        go_wp2_with fail
        go_ret
        exact ⟨rfl, HB7.out⟩
end Go.Proofs.Ytipdaecihfkonaa.Bt
