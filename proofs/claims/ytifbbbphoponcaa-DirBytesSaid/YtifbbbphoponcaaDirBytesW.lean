/-
  'DirBytes' walked: entries' bytes, and back; any bytes, read as such.
-/
import Derived.Test.YtifbbbphoponcaaDir16
namespace Go.Proofs.Ytifbbbphoponcaa.Dr
open Go.RowKit Wd Wi
set_option linter.unusedVariables false
set_option linter.unusedSimpArgs false
attribute [local go_sem] str_toList str_append str_size
theorem Sl.ofMine {w : World} {base n c : Nat} {e : TypeId} {A : Option Addr} {xs : List Value} {size : Nat} (h : Mine w base e size (.slice A n c) n xs) : Sl w w.heap.size size A n xs := by
  obtain ⟨A', c', hv, _, _, hs⟩ := h.form
  injection hv with h1 h2 h3
  subst h1
  exact hs
theorem mine_caps {w : World} {base n c : Nat} {e : TypeId} {A : Option Addr} {xs : List Value} {size : Nat} (h : Mine w base e size (.slice A n c) n xs) : n ≤ c ∧ c ≤ maxLen := by
  obtain ⟨A', c', hv, h1, h2, _⟩ := h.form
  injection hv with e1 e2 e3
  subst e3
  exact ⟨h1, h2⟩
set_option maxRecDepth 100000 in
set_option maxHeartbeats 3200000 in
theorem bytes_walk (A : Option Addr) (l : List En) (c : Nat) (Ab : Option Addr) (bs : List UInt8) (cb : Nat) (w : World) (hs : Sl w w.heap.size 2 A l.length (ecs l)) (hc : l.length ≤ c) (hk : l.length ≤ 17592186044416) (hg : ∀ x ∈ l, goodE x)
    (hsb : Sl w w.heap.size 1 Ab bs.length (bs.map bv)) (hcb : bs.length ≤ cb) (hkb : cb ≤ 140737488351232) :
    Calls Try.prog 3 #[.slice A l.length c, .slice Ab bs.length cb] w fun e w' => e = .returned (.bool true) ∧ Below w.heap.size w w' := by
  have FEW := Lib.hid (few_any A l c w hs hg hk)
  have HSL := Lib.hid hs
  have HSB := Lib.hid hsb
  have HG := Lib.hid hg
  cases hf : fewB l
  · rw [hf] at FEW
    clear hf hs hg hsb
    go_enter Try.func3, Try.ntmps3
    go_wp2_with fail
    refine FEW.out.mono ?_
    rintro e w' ⟨rfl, rfl⟩
    go_wp2_with fail
    refine (awake_any _).mono ?_
    rintro e w9 ⟨rfl, hb9⟩
    go_wp2_with fail
    go_ret
    exact ⟨rfl, hb9⟩
  · have hl80 : l.length ≤ 80 := by
      unfold fewB at hf
      simp only [Bool.and_eq_true, decide_eq_true_eq] at hf
      exact hf.1
    rw [hf] at FEW
    clear hf hs hg hsb
    by_cases hbig : 5000 < bs.length
    · have hbigI : (5000 : Int) < (bs.length : Int) := by omega
      go_enter Try.func3, Try.ntmps3
      go_wp2_with fail
      refine FEW.out.mono ?_
      rintro e w' ⟨rfl, rfl⟩
      go_wp2_with fail
      refine (awake_any _).mono ?_
      rintro e w9 ⟨rfl, hb9⟩
      go_wp2_with fail
      go_ret
      exact ⟨rfl, hb9⟩
    · have hbigI : (bs.length : Int) ≤ 5000 := by omega
      have hb5 : bs.length ≤ 5000 := by omega
      have hcbm : cb ≤ maxLen := by unfold maxLen; omega
      obtain ⟨g, ok, hg64, hcan⟩ := get_canon bs
      have ENT := Lib.hid (fun w hs => entries_any A l c w hs (by omega))
      have BYT := Lib.hid (fun w hs => bytes_any Ab bs cb w hs hcb (by omega))
      have GET : Hid (∀ A c w, Sl w w.heap.size 1 A bs.length (bs.map bv) → bs.length ≤ c → c ≤ maxLen → Calls Try.prog 14 #[.slice A bs.length c] w (ResG w g ok)) := Lib.hid (fun A c w hs h1 h2 => (get_any A bs c w hs h1 h2 (by omega)).mono fun e w' h => (hcan w e w').1 h)
      have RGET : Hid (∀ w, Sl w w.heap.size 1 Ab bs.length (bs.map bv) → Calls Try.prog 18 #[.slice Ab bs.length cb] w (ResG w g ok)) := Lib.hid (fun w hs => (rgetE_any Ab bs cb w hs hcb hcbm (by omega)).mono fun e w' h => (hcan w e w').2 h)
      have RCK := Lib.hid (fun w hs => rcheck_any A l c w hs HG.out hk)
      clear hcan
      cases hch : checkB l
      · have PNO := Lib.hid (fun A c w hs => put_no A l c w hs HG.out hk hch)
        rw [hch] at RCK
        clear hch
        go_enter Try.func3, Try.ntmps3
        go_wp2_with fail
        refine FEW.out.mono ?_
        rintro e w' ⟨rfl, rfl⟩
        go_wp2_with fail
        have HB0 := Lib.hid (Below.refl w.heap.size w)
        go_wp2_with fail
        refine (ENT.out _ HSL.out).mono ?_
        rintro e W1 ⟨A1, c1, rfl, hs1, hc1, hm1, hb1⟩
        have M_1 := Lib.hid hs1
        have L_1 := Lib.hid (HSL.out.on (Nat.le_refl _) hb1)
        have B_1 := Lib.hid (HSB.out.on (Nat.le_refl _) hb1)
        have HB1 := Lib.hid (HB0.out.trans (Below.mono hb1 HB0.out.size))
        clear hb1
        go_wp2_with fail
        refine (PNO.out _ _ _ M_1.out).mono ?_
        rintro e W2 ⟨rfl, hb2⟩
        have L_2 := Lib.hid (L_1.out.on (Nat.le_refl _) hb2)
        have B_2 := Lib.hid (B_1.out.on (Nat.le_refl _) hb2)
        have HB2 := Lib.hid (HB1.out.trans (Below.mono hb2 HB1.out.size))
        clear hb2
        go_wp2_with fail
        refine (RCK.out _ L_2.out).mono ?_
        rintro e W3 ⟨rfl, hb3⟩
        have L_3 := Lib.hid (L_2.out.on (Nat.le_refl _) hb3)
        have B_3 := Lib.hid (B_2.out.on (Nat.le_refl _) hb3)
        have HB3 := Lib.hid (HB2.out.trans (Below.mono hb3 HB2.out.size))
        clear hb3
        have HB3 := Lib.hid HB3.out
        have HBB3 := Lib.hid B_3.out
        have HB0 := Lib.hid HB3.out
        go_wp2_with fail
        refine (BYT.out _ HBB3.out).mono ?_
        rintro e W1 ⟨A6, c6, rfl, hm6, hb1⟩
        have hcm6 := mine_caps hm6
        have C_1 := Lib.hid (Sl.ofMine hm6)
        have B_1 := Lib.hid (HBB3.out.on (Nat.le_refl _) hb1)
        have HB1 := Lib.hid (HB0.out.trans (Below.mono hb1 HB0.out.size))
        clear hb1
        go_wp2_with fail
        refine (GET.out _ _ _ C_1.out hcm6.1 hcm6.2).mono ?_
        rintro e W2 ⟨A7, c7, rfl, hs7, hb2⟩
        have G_2 := Lib.hid hs7
        have B_2 := Lib.hid (B_1.out.on (Nat.le_refl _) hb2)
        have HB2 := Lib.hid (HB1.out.trans (Below.mono hb2 HB1.out.size))
        clear hb2
        go_wp2_with fail
        refine (RGET.out _ B_2.out).mono ?_
        rintro e W3 ⟨A8, c8, rfl, hs8, hb3⟩
        have H_3 := Lib.hid hs8
        have G_3 := Lib.hid (G_2.out.on (Nat.le_refl _) hb3)
        have HB3 := Lib.hid (HB2.out.trans (Below.mono hb3 HB2.out.size))
        clear hb3
        go_wp2_with fail
        refine (same_any _ _ g _ _ _ G_3.out H_3.out (by omega)).mono ?_
        rintro e W4 ⟨rfl, hb4⟩
        have HB4 := Lib.hid (HB3.out.trans (Below.mono hb4 HB3.out.size))
        clear hb4
        go_wp2_with fail
        refine (awake_any _).mono ?_
        rintro e W5 ⟨rfl, hb5⟩
        have HB5 := Lib.hid (HB4.out.trans (Below.mono hb5 HB4.out.size))
        clear hb5
        cases ok
        all_goals
          go_wp2_with fail
          go_ret
          exact ⟨rfl, HB5.out⟩
      · have hpl := put_len hch
        have PUT := Lib.hid (fun A c w hs => put_yes A l c w hs HG.out hch)
        have RPUT := Lib.hid (fun w hs => rputE_any A l c w hs hch)
        have GTB := Lib.hid (fun A c w hs h1 h2 => (get_any A (putL l) c w hs h1 h2 (by rw [hpl]; omega)).mono fun e w' h => get_back hch h)
        rw [hch] at RCK
        generalize putL l = PB at *
        obtain ⟨nP, hnP⟩ : ∃ nP, nP = PB.length := ⟨_, rfl⟩
        unfold Res2 at PUT
        unfold Res at RPUT
        rw [← hnP] at PUT RPUT GTB
        clear hch hpl hnP
        go_enter Try.func3, Try.ntmps3
        go_wp2_with fail
        refine FEW.out.mono ?_
        rintro e w' ⟨rfl, rfl⟩
        go_wp2_with fail
        have HB0 := Lib.hid (Below.refl w.heap.size w)
        go_wp2_with fail
        refine (ENT.out _ HSL.out).mono ?_
        rintro e W1 ⟨A1, c1, rfl, hs1, hc1, hm1, hb1⟩
        have M_1 := Lib.hid hs1
        have L_1 := Lib.hid (HSL.out.on (Nat.le_refl _) hb1)
        have B_1 := Lib.hid (HSB.out.on (Nat.le_refl _) hb1)
        have HB1 := Lib.hid (HB0.out.trans (Below.mono hb1 HB0.out.size))
        clear hb1
        go_wp2_with fail
        refine (PUT.out _ _ _ M_1.out).mono ?_
        rintro e W2 ⟨A2, c2, rfl, hs2, hc2, hm2, hb2⟩
        have P_2 := Lib.hid hs2
        have L_2 := Lib.hid (L_1.out.on (Nat.le_refl _) hb2)
        have B_2 := Lib.hid (B_1.out.on (Nat.le_refl _) hb2)
        have HB2 := Lib.hid (HB1.out.trans (Below.mono hb2 HB1.out.size))
        clear hb2
        go_wp2_with fail
        refine (RCK.out _ L_2.out).mono ?_
        rintro e W3 ⟨rfl, hb3⟩
        have L_3 := Lib.hid (L_2.out.on (Nat.le_refl _) hb3)
        have B_3 := Lib.hid (B_2.out.on (Nat.le_refl _) hb3)
        have P_3 := Lib.hid (P_2.out.on (Nat.le_refl _) hb3)
        have HB3 := Lib.hid (HB2.out.trans (Below.mono hb3 HB2.out.size))
        clear hb3
        go_wp2_with fail
        refine (GTB.out _ _ _ P_3.out hc2 hm2).mono ?_
        rintro e W4 ⟨A3, c3, rfl, hs3, hc3, hm3, hb4⟩
        have T_4 := Lib.hid hs3
        have L_4 := Lib.hid (L_3.out.on (Nat.le_refl _) hb4)
        have B_4 := Lib.hid (B_3.out.on (Nat.le_refl _) hb4)
        have P_4 := Lib.hid (P_3.out.on (Nat.le_refl _) hb4)
        have HB4 := Lib.hid (HB3.out.trans (Below.mono hb4 HB3.out.size))
        clear hb4
        have HLL := Lib.hid L_4.out
        have HLP := Lib.hid P_4.out
        have HL3 := Lib.hid T_4.out
        have HBX := Lib.hid HB4.out
        have HSBX := Lib.hid B_4.out
        go_wp2_with fail
        refine wp_region_rely (by kernel_rfl) (fun d u w' => match d with
          | 38 => u = (.slice A2 nP c2 : Value)
          | 39 => u = (.string (str (PB)) : Value)
          | 40 => u = (.slice A l.length c : Value)
          | 41 => ∃ A4 c4, u = .slice A4 nP c4 ∧ Sl w' w'.heap.size 1 A4 nP (PB.map bv)
          | 42 => u = (.string (str (PB)) : Value)
          | 43 => u = (.bool false : Value)
          | 44 => u = (.bool false : Value)
          | 45 => u = (.bool true : Value)
          | 46 => u = (.bool false : Value)
          | 47 => u = (.bool false : Value)
          | 48 => u = (.bool false : Value)
          | 49 => u = (.slice A3 l.length c3 : Value)
          | 50 => u = (.slice A l.length c : Value)
          | 51 => u = (.bool true : Value)
          | 52 => u = (.bool false : Value)
          | 53 => u = (.bool false : Value)
          | _ => True) 76 rfl (by decide +kernel) [53] ?_ ?_
        · refine AllSteps.cons (Step.move _ rfl rfl fun a w' hl => hl.old 5 rfl) ?_
          refine AllSteps.cons (Step.plain rfl fun a w' K hl hK => ?_) ?_
          · obtain ⟨_, _, _, h38⟩ := hl.dep 0 38 rfl rfl
            replace h38 : a.eval (.tmp 38) = _ := h38
            exact wp_conv rfl Try.underlying23 Try.underlying5 Try.underlying9 h38 (HLP.out.on (Nat.le_refl _) hl.kept) (hK _ _ (Kept.refl _) rfl)
          refine AllSteps.cons (Step.move _ rfl rfl fun a w' hl => hl.old 0 rfl) ?_
          refine AllSteps.cons (Step.plain rfl fun a w' K hl hK => ?_) ?_
          · obtain ⟨_, _, _, h40⟩ := hl.dep 2 40 rfl rfl
            replace h40 : a.eval (.tmp 40) = _ := h40
            refine wp_call rfl Try.func15 rfl rfl #[.slice A l.length c] (by simp [h40]) ?_
            refine (RPUT.out w' (HLL.out.on (Nat.le_refl _) hl.kept)).mono ?_
            rintro e w8 ⟨A4, c4, rfl, hs4, hc4, hm4, hb4⟩
            exact ⟨_, rfl, hK _ _ hb4 ⟨A4, c4, rfl, hs4⟩⟩
          refine AllSteps.cons (Step.plain rfl fun a w' K hl hK => ?_) ?_
          · obtain ⟨_, w1, hk1, A4, c4, h41, hs4⟩ := hl.dep 3 41 rfl rfl
            exact wp_conv rfl Try.underlying23 Try.underlying5 Try.underlying9 h41 (hs4.on (Nat.le_refl _) hk1) (hK _ _ (Kept.refl _) rfl)
          refine AllSteps.cons (Step.plain rfl fun a w' K hl hK => ?_) ?_
          · obtain ⟨_, _, _, h39⟩ := hl.dep 1 39 rfl rfl
            replace h39 : a.eval (.tmp 39) = _ := h39
            obtain ⟨_, _, _, h42⟩ := hl.dep 4 42 rfl rfl
            replace h42 : a.eval (.tmp 42) = _ := h42
            exact wp_neq_str rfl h39 h42 _ (by simp) (hK _ _ (Kept.refl _) rfl)
          refine AllSteps.cons (Step.move _ rfl rfl fun a w' hl => let ⟨_, _, _, h⟩ := hl.dep 5 43 rfl rfl; h) ?_
          refine AllSteps.cons (Step.yes 6 false 44 rfl rfl rfl (fun _ _ h => h) fun a w' K hl hK => ?_) ?_
          · have h8 : a.eval (.tmp 8) = (.bool true : Value) := hl.old 8 rfl
            exact wp_val (a.eval (.tmp 8)) rfl (hK _ _ (Kept.refl _) h8)
          refine AllSteps.cons (Step.yes 6 false 44 rfl rfl rfl (fun _ _ h => h) fun a w' K hl hK => ?_) ?_
          · obtain ⟨_, _, _, h45⟩ := hl.dep 7 45 rfl rfl
            replace h45 : a.eval (.tmp 45) = _ := h45
            refine wp_val (.bool false) ?_ (hK _ _ (Kept.refl _) rfl)
            clear hl hK
            generalize a.eval = ρ at *
            simp [execOp, go_sem, h45]
          refine AllSteps.cons (Step.plain rfl fun a w' K hl hK => ?_) ?_
          · obtain ⟨_, _, _, h44⟩ := hl.dep 6 44 rfl rfl
            replace h44 : a.eval (.tmp 44) = _ := h44
            obtain ⟨_, _, _, h46⟩ := hl.dep 8 46 rfl rfl
            replace h46 : a.eval (.tmp 46) = _ := h46
            exact wp_pick rfl false h44 (hK _ _ (Kept.refl _) h46)
          refine AllSteps.cons (Step.move _ rfl rfl fun a w' hl => let ⟨_, _, _, h⟩ := hl.dep 9 47 rfl rfl; h) ?_
          refine AllSteps.cons (Step.yes 10 false 48 rfl rfl rfl (fun _ _ h => h) fun a w' K hl hK => ?_) ?_
          · have h7 : a.eval (.tmp 7) = (.slice A3 l.length c3 : Value) := hl.old 7 rfl
            exact wp_val (a.eval (.tmp 7)) rfl (hK _ _ (Kept.refl _) h7)
          refine AllSteps.cons (Step.yes 10 false 48 rfl rfl rfl (fun _ _ h => h) fun a w' K hl hK => ?_) ?_
          · have h0 : a.eval (.tmp 0) = (.slice A l.length c : Value) := hl.old 0 rfl
            exact wp_val (a.eval (.tmp 0)) rfl (hK _ _ (Kept.refl _) h0)
          refine AllSteps.cons (Step.yes 10 false 48 rfl rfl rfl (fun _ _ h => h) fun a w' K hl hK => ?_) ?_
          · obtain ⟨_, _, _, h49⟩ := hl.dep 11 49 rfl rfl
            replace h49 : a.eval (.tmp 49) = _ := h49
            obtain ⟨_, _, _, h50⟩ := hl.dep 12 50 rfl rfl
            replace h50 : a.eval (.tmp 50) = _ := h50
            refine wp_call rfl Try.func16 rfl rfl #[.slice A3 l.length c3, .slice A l.length c] (by simp [h49, h50]) ?_
            refine (same_any A3 A l c3 c w' (HL3.out.on (Nat.le_refl _) hl.kept) (HLL.out.on (Nat.le_refl _) hl.kept) hk).mono ?_
            rintro e w8 ⟨rfl, hb8⟩
            exact ⟨_, rfl, hK _ _ hb8 rfl⟩
          refine AllSteps.cons (Step.yes 10 false 48 rfl rfl rfl (fun _ _ h => h) fun a w' K hl hK => ?_) ?_
          · obtain ⟨_, _, _, h51⟩ := hl.dep 13 51 rfl rfl
            replace h51 : a.eval (.tmp 51) = _ := h51
            refine wp_val (.bool false) ?_ (hK _ _ (Kept.refl _) rfl)
            clear hl hK
            generalize a.eval = ρ at *
            simp [execOp, go_sem, h51]
          refine AllSteps.cons (Step.plain rfl fun a w' K hl hK => ?_) ?_
          · obtain ⟨_, _, _, h48⟩ := hl.dep 10 48 rfl rfl
            replace h48 : a.eval (.tmp 48) = _ := h48
            obtain ⟨_, _, _, h52⟩ := hl.dep 14 52 rfl rfl
            replace h52 : a.eval (.tmp 52) = _ := h52
            exact wp_pick rfl false h48 (hK _ _ (Kept.refl _) h52)
          exact AllSteps.nil
        · intro f w3 hk9 hf
          obtain ⟨_, _, hres⟩ := hf 53 rfl rfl
          replace hres : f 53 = .bool false := hres
          simp only [fill, dsts, List.filterMap_cons, List.filterMap_nil, List.foldl_cons, List.foldl_nil, Act.put, hres, List.setIfInBounds_toArray, List.set_cons_succ, List.set_cons_zero]
          clear hf
          have HB3 := Lib.hid (HBX.out.trans (Below.mono hk9 HBX.out.size))
          have HBB3 := Lib.hid (HSBX.out.on (Nat.le_refl _) hk9)
          clear hk9
          have HB0 := Lib.hid HB3.out
          go_wp2_with fail
          refine (BYT.out _ HBB3.out).mono ?_
          rintro e W1 ⟨A6, c6, rfl, hm6, hb1⟩
          have hcm6 := mine_caps hm6
          have C_1 := Lib.hid (Sl.ofMine hm6)
          have B_1 := Lib.hid (HBB3.out.on (Nat.le_refl _) hb1)
          have HB1 := Lib.hid (HB0.out.trans (Below.mono hb1 HB0.out.size))
          clear hb1
          go_wp2_with fail
          refine (GET.out _ _ _ C_1.out hcm6.1 hcm6.2).mono ?_
          rintro e W2 ⟨A7, c7, rfl, hs7, hb2⟩
          have G_2 := Lib.hid hs7
          have B_2 := Lib.hid (B_1.out.on (Nat.le_refl _) hb2)
          have HB2 := Lib.hid (HB1.out.trans (Below.mono hb2 HB1.out.size))
          clear hb2
          go_wp2_with fail
          refine (RGET.out _ B_2.out).mono ?_
          rintro e W3 ⟨A8, c8, rfl, hs8, hb3⟩
          have H_3 := Lib.hid hs8
          have G_3 := Lib.hid (G_2.out.on (Nat.le_refl _) hb3)
          have HB3 := Lib.hid (HB2.out.trans (Below.mono hb3 HB2.out.size))
          clear hb3
          go_wp2_with fail
          refine (same_any _ _ g _ _ _ G_3.out H_3.out (by omega)).mono ?_
          rintro e W4 ⟨rfl, hb4⟩
          have HB4 := Lib.hid (HB3.out.trans (Below.mono hb4 HB3.out.size))
          clear hb4
          go_wp2_with fail
          refine (awake_any _).mono ?_
          rintro e W5 ⟨rfl, hb5⟩
          have HB5 := Lib.hid (HB4.out.trans (Below.mono hb5 HB4.out.size))
          clear hb5
          cases ok
          all_goals
            go_wp2_with fail
            go_ret
            exact ⟨rfl, HB5.out⟩
end Go.Proofs.Ytifbbbphoponcaa.Dr
