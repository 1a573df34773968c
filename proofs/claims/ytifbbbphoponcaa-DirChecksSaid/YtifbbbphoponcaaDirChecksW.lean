/-
  'DirChecks' walked: any entries: whether they may be; any name: whether it is one, and who has it.
-/
import Derived.Test.YtifbbbphoponcaaDir9
namespace Go.Proofs.Ytifbbbphoponcaa.Dr
open Go.RowKit Wd Wi
set_option linter.unusedVariables false
set_option maxHeartbeats 1600000 in
theorem checks_walk (A : Option Addr) (l : List En) (c : Nat) (s : ByteArray) (w : World) (hs : Sl w w.heap.size 2 A l.length (ecs l)) (hc : l.length ≤ c) (hk : l.length ≤ 17592186044416) (hg : ∀ x ∈ l, goodE x) (hsz : s.size ≤ 140737488351232) :
    Calls Try.prog 4 #[.slice A l.length c, .string s] w fun e w' => e = .returned (.bool true) ∧ Below w.heap.size w w' := by
  have FEW := Lib.hid (few_any A l c w hs hg hk)
  have HS := Lib.hid hs
  have HG := Lib.hid hg
  have hs0 : (0 : Int) ≤ (s.size : Int) := by omega
  have hs1 : (s.size : Int) ≤ 140737488351232 := by omega
  cases hf : fewB l
  · rw [hf] at FEW
    clear hf hs hg
    go_enter Try.func4, Try.ntmps4
    go_wp2_with fail
    refine FEW.out.mono ?_
    rintro e w' ⟨rfl, rfl⟩
    go_wp2_with fail
    refine (awake_any _).mono ?_
    rintro e w9 ⟨rfl, hb9⟩
    go_wp2_with fail
    go_ret
    exact ⟨rfl, hb9⟩
  · have hl80 : l.length ≤ 80 := by
      unfold fewB at hf
      simp only [Bool.and_eq_true, decide_eq_true_eq] at hf
      exact hf.1
    rw [hf] at FEW
    clear hf hs hg
    by_cases hbig : 1000 < s.size
    · have hbigI : (1000 : Int) < (s.size : Int) := by omega
      go_enter Try.func4, Try.ntmps4
      go_wp2_with fail
      refine FEW.out.mono ?_
      rintro e w' ⟨rfl, rfl⟩
      go_wp2_with fail
      refine (awake_any _).mono ?_
      rintro e w9 ⟨rfl, hb9⟩
      go_wp2_with fail
      go_ret
      exact ⟨rfl, hb9⟩
    · have hbigI : (s.size : Int) ≤ 1000 := by omega
      have HNA := Lib.hid (fun w => name_any s (by omega) w)
      have HRN := Lib.hid (fun w => rname_any s (by omega) w)
      generalize nameB s = nb at *
      go_enter Try.func4, Try.ntmps4
      go_wp2_with fail
      refine FEW.out.mono ?_
      rintro e w' ⟨rfl, rfl⟩
      go_wp2_with fail
      refine (entries_any A l c w HS.out (by omega)).mono ?_
      rintro e w1 ⟨A1, c1, rfl, hs1', hc1, hm1, hb1⟩
      have HS1 := Lib.hid hs1'
      have HB1 := Lib.hid hb1
      clear hs1' hb1
      go_wp2_with fail
      refine (check_any A1 l c1 w1 HS1.out HG.out (by omega)).mono ?_
      rintro e w2 ⟨rfl, hb2⟩
      have HB2 := Lib.hid (HB1.out.trans (Below.mono hb2 HB1.out.size))
      have HS2 := Lib.hid (HS1.out.on (Nat.le_refl _) hb2)
      clear hb2
      go_wp2_with fail
      refine (rcheck_any A l c w2 (HS.out.on (Nat.le_refl _) HB2.out) HG.out (by omega)).mono ?_
      rintro e w3 ⟨rfl, hb3⟩
      have HB3 := Lib.hid (HB2.out.trans (Below.mono hb3 HB2.out.size))
      have HS3 := Lib.hid (HS2.out.on (Nat.le_refl _) hb3)
      clear hb3
      have HCK := Lib.hid (fun w3 h => rcheck_any A l c w3 h HG.out (by omega))
      generalize hcb : checkB l = cb at *
      have HCB := Lib.hid hcb
      clear hcb
      cases cb <;> cases nb
      all_goals
        go_wp2_with fail
        refine (HNA.out _).mono ?_
        rintro e w' ⟨rfl, rfl⟩
        go_wp2_with fail
        refine (HRN.out _).mono ?_
        rintro e w' ⟨rfl, rfl⟩
        go_wp2_with fail
        refine (HCK.out _ (HS.out.on (Nat.le_refl _) HB3.out)).mono ?_
        rintro e w4 ⟨rfl, hb4⟩
        have HB4 := Lib.hid (HB3.out.trans (Below.mono hb4 HB3.out.size))
        have HS4 := Lib.hid (HS3.out.on (Nat.le_refl _) hb4)
        clear hb4
        go_wp2_with fail
        first
        | (refine (awake_any _).mono ?_
           rintro e w9 ⟨rfl, hb9⟩
           have HB9 := Lib.hid (HB4.out.trans (Below.mono hb9 HB4.out.size))
           go_wp2_with fail
           go_ret
           exact ⟨rfl, HB9.out⟩)
        | (refine (find_any A1 l c1 s w4 HS4.out (by omega)).mono ?_
           rintro e w5 ⟨rfl, hb5⟩
           have HB5 := Lib.hid (HB4.out.trans (Below.mono hb5 HB4.out.size))
           clear hb5
           have RF := Lib.hid (rfind_any A l c s w5 (HS.out.on (Nat.le_refl _) HB5.out) (by omega))
           generalize findV l s = fv at *
           obtain ⟨fi, fb⟩ := fv
           go_wp2_with fail
           refine RF.out.mono ?_
           rintro e w' ⟨rfl, rfl⟩
           cases fb
           all_goals
             go_wp2_with fail
             refine (awake_any _).mono ?_
             rintro e w9 ⟨rfl, hb9⟩
             have HB9 := Lib.hid (HB5.out.trans (Below.mono hb9 HB5.out.size))
             go_wp2_with fail
             go_ret
             exact ⟨rfl, HB9.out⟩)
end Go.Proofs.Ytifbbbphoponcaa.Dr
