/-
  'DirFinds' walked: each entry is found by its name; another name is not.
-/
import Derived.Test.YtifbbbphoponcaaDir9
namespace Go.Proofs.Ytifbbbphoponcaa.Dr
open Go.RowKit Wd Wi
set_option linter.unusedVariables false
/-- in a list that stands by bytes the entry itself is found -/
theorem find_self : ∀ {l : List En}, Srt l → ∀ {x : En}, x ∈ l → findV l x.1 = (x.2, true)
  | [], _, x, h => by simp at h
  | y :: l, hs, x, h => by
    unfold findV
    rcases List.mem_cons.1 h with rfl | h
    · rw [if_pos rfl]
    · have hlt := (List.pairwise_cons.1 hs).1 x h
      have hne : y.1 ≠ x.1 := fun e => by
        rw [e, lt_irrefl] at hlt
        cases hlt
      rw [if_neg hne, find_self (List.pairwise_cons.1 hs).2 h]
theorem has_take {l : List En} {k : Nat} {x : En} (h : l[k]? = some x) (s : ByteArray) : has (l.take (k + 1)) s = (has (l.take k) s || eqS x.1 s) := by
  unfold has
  rw [List.take_add_one, h, List.any_append]
  simp
set_option maxHeartbeats 3200000 in
theorem finds_walk (A : Option Addr) (l : List En) (c : Nat) (s : ByteArray) (w : World) (hs : Sl w w.heap.size 2 A l.length (ecs l)) (hc : l.length ≤ c) (hk : l.length ≤ 17592186044416) (hg : ∀ x ∈ l, goodE x) (hsz : s.size ≤ 140737488351232) :
    Calls Try.prog 5 #[.slice A l.length c, .string s] w fun e w' => e = .returned (.bool true) ∧ Below w.heap.size w w' := by
  have FEW := Lib.hid (few_any A l c w hs hg hk)
  have HS := Lib.hid hs
  have HG := Lib.hid hg
  have hs0 : (0 : Int) ≤ (s.size : Int) := by omega
  have hs1 : (s.size : Int) ≤ 140737488351232 := by omega
  cases hf : fewB l
  · rw [hf] at FEW
    clear hf hs hg
    go_enter Try.func5, Try.ntmps5
    go_wp2_with fail
    refine FEW.out.mono ?_
    rintro e w' ⟨rfl, rfl⟩
    go_wp2_with fail
    refine (awake_any _).mono ?_
    rintro e w9 ⟨rfl, hb9⟩
    go_wp2_with fail
    go_ret
    exact ⟨rfl, hb9⟩
  · have hl80 : l.length ≤ 80 := by
      unfold fewB at hf
      simp only [Bool.and_eq_true, decide_eq_true_eq] at hf
      exact hf.1
    rw [hf] at FEW
    have RCK := Lib.hid (rcheck_any A l c w hs hg hk)
    clear hf hs hg
    cases hch : checkB l
    · rw [hch] at RCK
      clear hch
      go_enter Try.func5, Try.ntmps5
      go_wp2_with fail
      refine FEW.out.mono ?_
      rintro e w' ⟨rfl, rfl⟩
      go_wp2_with fail
      refine RCK.out.mono ?_
      rintro e w1 ⟨rfl, hb1⟩
      have HB1 := Lib.hid hb1
      clear hb1
      go_wp2_with fail
      refine (awake_any _).mono ?_
      rintro e w9 ⟨rfl, hb9⟩
      have HB9 := Lib.hid (HB1.out.trans (Below.mono hb9 HB1.out.size))
      go_wp2_with fail
      go_ret
      exact ⟨rfl, HB9.out⟩
    · have HSRT := Lib.hid (okTo_srt (check_parts hch).1)
      have HMAY := Lib.hid (okTo_may (check_parts hch).1)
      rw [hch] at RCK
      clear hch
      by_cases hbig : 300 < s.size
      · have hbigI : (300 : Int) < (s.size : Int) := by omega
        go_enter Try.func5, Try.ntmps5
        go_wp2_with fail
        refine FEW.out.mono ?_
        rintro e w' ⟨rfl, rfl⟩
        go_wp2_with fail
        refine RCK.out.mono ?_
        rintro e w1 ⟨rfl, hb1⟩
        have HB1 := Lib.hid hb1
        clear hb1
        go_wp2_with fail
        refine (awake_any _).mono ?_
        rintro e w9 ⟨rfl, hb9⟩
        have HB9 := Lib.hid (HB1.out.trans (Below.mono hb9 HB1.out.size))
        go_wp2_with fail
        go_ret
        exact ⟨rfl, HB9.out⟩
      · have hbigI : (s.size : Int) ≤ 300 := by omega
        go_enter Try.func5, Try.ntmps5
        go_wp2_with fail
        refine FEW.out.mono ?_
        rintro e w' ⟨rfl, rfl⟩
        go_wp2_with fail
        refine RCK.out.mono ?_
        rintro e w1 ⟨rfl, hb1⟩
        have HB1 := Lib.hid hb1
        clear hb1
        go_wp2_with fail
        refine (entries_any A l c w1 (HS.out.on (Nat.le_refl _) HB1.out) (by omega)).mono ?_
        rintro e w2 ⟨A2, c2, rfl, hs2, hc2, hm2, hb2⟩
        have HS2 := Lib.hid hs2
        have HB2 := Lib.hid (HB1.out.trans (Below.mono hb2 HB1.out.size))
        clear hs2 hb2
        go_wp2_with fail
        go_loopw [6, 7] (fun iv kv wr => ∃ k : Nat, k ≤ l.length ∧ kv = .int .i64 (k : Int) ∧ iv = .bool (has (l.take k) s) ∧ Below w2.heap.size w2 wr) (fun _ kv _ => l.length - (intOf kv).toNat)
        case atStart => exact ⟨0, by omega, rfl, rfl, Below.refl _ _⟩
        case round =>
          obtain ⟨k, hk2, rfl, rfl, hbel⟩ := hrel
          have HBR := Lib.hid hbel
          clear hbel
          have HB := Lib.hid (HB2.out.trans (Below.mono HBR.out HB2.out.size))
          by_cases hlt : k < l.length
          · have hltI : (k : Int) < (l.length : Int) := by omega
            have hk0 : (0 : Int) ≤ (k : Int) := by omega
            obtain ⟨x, hx⟩ : ∃ x, l[k]? = some x := ⟨_, List.getElem?_eq_getElem hlt⟩
            have hxm := List.mem_of_getElem? hx
            have hA : ∃ b off, A = some ⟨b, off, none⟩ := by
              obtain ⟨b, off, e, _⟩ := HS.out.at (by omega) (by decide)
              exact ⟨b, off, e⟩
            obtain ⟨b, off, rfl⟩ := hA
            obtain ⟨hrx, hb0⟩ := ent_range HS.out hx
            have HRX := Lib.hid (range_keep hrx (HB.out.block b hb0))
            have FND := Lib.hid (fun w' h => find_any A2 l c2 x.1 w' h (by omega))
            rw [find_self HSRT.out hxm] at FND
            have hmay := HMAY.out x hxm
            have hnm : nameB x.1 = true := by
              unfold mayB at hmay
              simp only [Bool.and_eq_true] at hmay
              exact hmay.1.1
            have NM := Lib.hid (fun w => name_any x.1 (HG.out x hxm).1 w)
            rw [hnm] at NM
            have HT := Lib.hid (has_take hx s)
            have hc0 := range_name HRX.out
            have hbr : b < wr.heap.size := Nat.lt_of_lt_of_le hb0 HB.out.size
            clear hx hxm hmay hnm hrx
            generalize has (l.take k) s = hb at *
            go_wp2_with fail
            refine (FND.out _ (HS2.out.on (Nat.le_refl _) HBR.out)).mono ?_
            rintro e w3 ⟨rfl, hb3⟩
            have hr3 := range_keep HRX.out (hb3.block b hbr)
            have hc3 := range_name hr3
            have hd3 := range_ino hr3
            have HBR3 := Lib.hid (HBR.out.trans (Below.mono hb3 HBR.out.size))
            clear hr3 hc0 hb3
            go_wp2_with fail
            refine (NM.out _).mono ?_
            rintro e w' ⟨rfl, rfl⟩
            cases hb
            all_goals
              go_wp2_with fail
              go_roundw
              case rel => exact ⟨k + 1, by omega, by go_num, by rw [HT.out]; rfl, HBR3.out⟩
              case measure => simp [intOf]; omega
          · have hge : (l.length : Int) ≤ (k : Int) := by omega
            obtain rfl : k = l.length := by omega
            have HH : Hid (has (l.take l.length) s = (findV l s).2) := by
              show _ = _
              rw [List.take_of_length_le (Nat.le_refl _), find_has]
            have FND := Lib.hid (find_any A2 l c2 s wr (HS2.out.on (Nat.le_refl _) HBR.out) (by omega))
            rw [HH.out]
            generalize findV l s = fv at *
            obtain ⟨fi, fb⟩ := fv
            go_wp2_with fail
            refine FND.out.mono ?_
            rintro e w3 ⟨rfl, hb3⟩
            have HB3 := Lib.hid (HB.out.trans (Below.mono hb3 HB.out.size))
            clear hb3
            cases fb
            all_goals
              go_wp2_with fail
              refine (awake_any _).mono ?_
              rintro e w9 ⟨rfl, hb9⟩
              have HB9 := Lib.hid (HB3.out.trans (Below.mono hb9 HB3.out.size))
              go_wp2_with fail
              go_ret
              exact ⟨rfl, HB9.out⟩
end Go.Proofs.Ytifbbbphoponcaa.Dr
