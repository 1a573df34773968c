/-
  'InodePuts' walked: any inode: whether it may be, its block, and back.
-/
import Derived.Test.YtbhpkknimjmpjaaInode12
import Derived.Test.YtbhpkknimjmpjaaInode14
import Derived.Test.YtbhpkknimjmpjaaInode15
namespace Go.Proofs.Ytbhpkknimjmpjaa.In
open Go.RowKit Wd Wi
set_option linter.unusedVariables false
attribute [local go_sem] str_toList str_append str_size

set_option maxRecDepth 100000 in
set_option maxHeartbeats 1600000 in
theorem inodePuts_walk (xs : List Int) (w : World) (hl : xs.length = 37) :
    Calls Try.prog 6 #[.agg (ints xs)] w fun e w' => e = .returned (.bool true) ∧ Below w.heap.size w w' := by
  have hbl := blocks_any xs hl
  obtain ⟨C, hC⟩ : ∃ C, C = cnt xs := ⟨_, rfl⟩
  rw [← hC] at hbl
  obtain ⟨QO, hQO⟩ : ∃ QO, QO = xs.drop 5 := ⟨_, rfl⟩
  have HQL : Hid (QO.length = 32) := by show _ = _; rw [hQO, List.length_drop, hl]
  have HCE : Hid ((QO.filter fun p => !(p == 0)).length = C) := by rw [hQO, hC]; rfl
  have HAT : Hid (∀ (k : Nat) (q : Int), QO[k]? = some q → xs[5 + k]? = some q) := fun k q hq => by rw [hQO, List.getElem?_drop] at hq; exact hq
  have HBL := Lib.hid hbl
  have HL := Lib.hid hl
  have hck := checkL hl
  have hrk := rcheckL hl
  clear hbl hC hQO
  cases cx : chkL xs
  · have HPUT := Lib.hid (fun w' => iputL_no hl cx w')
    rw [cx] at hck hrk
    have HCK := Lib.hid hck
    have HRK := Lib.hid hrk
    clear hck hrk cx hl
    go_enter Try.func6, Try.ntmps6
    go_wp2_with (first
      | ((with_reducible show wpList _ _ _ (⟨some 1, _, _, _, _, _⟩ :: _) _ _); refine wpList_box_ino rfl _ rfl HL.out rfl ?_; intro w1 hr1 hb1 hlt1)
      | ((with_reducible show wpList _ _ _ (⟨some 10, _, _, _, _, _⟩ :: _) _ _); refine wpList_load_ino rfl _ rfl hr1 HL.out rfl ?_)
      | (go_at_call 12; refine (HPUT.out _).mono ?_; rintro e w3 ⟨rfl, hb3⟩))
    have HR := Lib.hid (hr1.below hb3 hlt1)
    have HKW := Lib.hid (hb1.trans (hb3.mono hb1.size))
    obtain ⟨b1, hb1e⟩ : ∃ b1, b1 = w.heap.size := ⟨_, rfl⟩
    rw [← hb1e] at HR hlt1 ⊢
    have HLT : Hid (b1 < w3.heap.size) := Nat.lt_of_lt_of_le hlt1 hb3.size
    have HE := Lib.hid hb1e
    clear hr1 hb1 hb3 hlt1 hb1e
    refine wp_region_rely (by kernel_rfl) (fun d u w' => match d with
      | 14 => u = (.agg (ints xs) : Value)
      | 15 => u = (.bool false : Value)
      | 16 => u = (.agg (ints xs) : Value)
      | 17 => u = (.bool false : Value)
      | 18 => u = (.bool false : Value)
      | 19 => u = (.bool false : Value)
      | 20 => u = (.bool false : Value)
      | 21 => u = (.agg (ints xs) : Value)
      | 22 => u = (.bool false : Value)
      | 23 => u = (.bool false : Value)
      | 24 => u = (.bool false : Value)
      | _ => True) 70 rfl (by decide +kernel) [24] ?_ ?_
    · refine AllSteps.cons (Step.plain rfl fun a w' K hl hK => ?_) ?_
      · have h1 : a.eval (.tmp 1) = (.pointer (some ⟨b1, 0, none⟩) : Value) := hl.old 1 rfl
        exact wp_load_ino rfl (HR.out.kept hl.kept HLT.out) HL.out h1 (hK _ _ (Kept.refl _) rfl)
      refine AllSteps.cons (Step.plain rfl fun a w' K hl hK => ?_) ?_
      · obtain ⟨_, _, _, h14⟩ := hl.dep 0 14 rfl rfl
        replace h14 : a.eval (.tmp 14) = _ := h14
        refine wp_call rfl Try.func14 rfl rfl #[.agg (ints xs)] (by simp [h14]) ?_
        refine (HCK.out w').mono ?_
        rintro e w7 ⟨rfl, hb7⟩
        exact ⟨_, rfl, hK _ _ hb7 rfl⟩
      refine AllSteps.cons (Step.plain rfl fun a w' K hl hK => ?_) ?_
      · have h1 : a.eval (.tmp 1) = (.pointer (some ⟨b1, 0, none⟩) : Value) := hl.old 1 rfl
        exact wp_load_ino rfl (HR.out.kept hl.kept HLT.out) HL.out h1 (hK _ _ (Kept.refl _) rfl)
      refine AllSteps.cons (Step.plain rfl fun a w' K hl hK => ?_) ?_
      · obtain ⟨_, _, _, h16⟩ := hl.dep 2 16 rfl rfl
        replace h16 : a.eval (.tmp 16) = _ := h16
        refine wp_call rfl Try.func15 rfl rfl #[.agg (ints xs)] (by simp [h16]) ?_
        refine (HRK.out w').mono ?_
        rintro e w7 ⟨rfl, hb7⟩
        exact ⟨_, rfl, hK _ _ hb7 rfl⟩
      refine AllSteps.cons (Step.plain rfl fun a w' K hl hK => ?_) ?_
      · obtain ⟨_, _, _, h15⟩ := hl.dep 1 15 rfl rfl
        replace h15 : a.eval (.tmp 15) = _ := h15
        obtain ⟨_, _, _, h17⟩ := hl.dep 3 17 rfl rfl
        replace h17 : a.eval (.tmp 17) = _ := h17
        refine wp_val (.bool false) ?_ (hK _ _ (Kept.refl _) rfl)
        clear hl hK
        generalize a.eval = ρ at *
        simp [execOp, go_sem, h15, h17]
      refine AllSteps.cons (Step.move _ rfl rfl fun a w' hl => let ⟨_, _, _, h⟩ := hl.dep 4 18 rfl rfl; h) ?_
      refine AllSteps.cons (Step.yes 5 false 19 rfl rfl rfl (fun _ _ h => h) fun a w' K hl hK => ?_) ?_
      · have h4 : a.eval (.tmp 4) = (.bool false : Value) := hl.old 4 rfl
        exact wp_val (a.eval (.tmp 4)) rfl (hK _ _ (Kept.refl _) h4)
      refine AllSteps.cons (Step.yes 5 false 19 rfl rfl rfl (fun _ _ h => h) fun a w' K hl hK => ?_) ?_
      · have h1 : a.eval (.tmp 1) = (.pointer (some ⟨b1, 0, none⟩) : Value) := hl.old 1 rfl
        exact wp_load_ino rfl (HR.out.kept hl.kept HLT.out) HL.out h1 (hK _ _ (Kept.refl _) rfl)
      refine AllSteps.cons (Step.yes 5 false 19 rfl rfl rfl (fun _ _ h => h) fun a w' K hl hK => ?_) ?_
      · obtain ⟨_, _, _, h21⟩ := hl.dep 7 21 rfl rfl
        replace h21 : a.eval (.tmp 21) = _ := h21
        refine wp_call rfl Try.func15 rfl rfl #[.agg (ints xs)] (by simp [h21]) ?_
        refine (HRK.out w').mono ?_
        rintro e w7 ⟨rfl, hb7⟩
        exact ⟨_, rfl, hK _ _ hb7 rfl⟩
      refine AllSteps.cons (Step.yes 5 false 19 rfl rfl rfl (fun _ _ h => h) fun a w' K hl hK => ?_) ?_
      · obtain ⟨_, _, _, h20⟩ := hl.dep 6 20 rfl rfl
        replace h20 : a.eval (.tmp 20) = _ := h20
        obtain ⟨_, _, _, h22⟩ := hl.dep 8 22 rfl rfl
        replace h22 : a.eval (.tmp 22) = _ := h22
        refine wp_val (.bool false) ?_ (hK _ _ (Kept.refl _) rfl)
        clear hl hK
        generalize a.eval = ρ at *
        simp [execOp, go_sem, h20, h22]
      refine AllSteps.cons (Step.plain rfl fun a w' K hl hK => ?_) ?_
      · obtain ⟨_, _, _, h19⟩ := hl.dep 5 19 rfl rfl
        replace h19 : a.eval (.tmp 19) = _ := h19
        obtain ⟨_, _, _, h23⟩ := hl.dep 9 23 rfl rfl
        replace h23 : a.eval (.tmp 23) = _ := h23
        exact wp_pick rfl false h19 (hK _ _ (Kept.refl _) h23)
      exact AllSteps.nil
    · intro f w4 hk4 hf
      obtain ⟨_, _, h24⟩ := hf 24 rfl rfl
      replace h24 : f 24 = .bool false := h24
      simp only [Exit.then, fill, dsts, List.filterMap_cons, List.filterMap_nil, List.foldl_cons, List.foldl_nil, Act.put, h24, List.setIfInBounds_toArray, List.set_cons_succ, List.set_cons_zero]
      clear hf h24
      generalize f 14 = u14
      generalize f 15 = u15
      generalize f 16 = u16
      generalize f 17 = u17
      generalize f 18 = u18
      generalize f 19 = u19
      generalize f 20 = u20
      generalize f 21 = u21
      generalize f 22 = u22
      generalize f 23 = u23
      have HR4 := Lib.hid (HR.out.kept hk4 HLT.out)
      have HK4 := Lib.hid hk4
      clear hk4
      go_wp2_with fail
      go_loopw [6, 5] (fun j c wr => ∃ k : Nat, k ≤ 32 ∧ j = .int .i64 (k : Int) ∧ ∃ n : Nat, c = .int .i64 (n : Int) ∧ n ≤ k ∧ n = ((QO.take k).filter fun p => !(p == 0)).length ∧ w4 = wr) (fun j _ _ => 32 - (intOf j).toNat)
      case atStart => exact ⟨0, by omega, rfl, 0, rfl, Nat.le_refl _, rfl, rfl⟩
      case round =>
        obtain ⟨k, hk, rfl, n, rfl, hnk, hn, rfl⟩ := hrel
        have HCN := Lib.hid hn
        clear hn
        by_cases hlt : k < 32
        · have hltI : (k : Int) < 32 := by omega
          obtain ⟨q, hq⟩ : ∃ q, QO[k]? = some q := ⟨_, List.getElem?_eq_getElem (by rw [HQL.out]; exact hlt)⟩
          have HCX := Lib.hid (cnt_next hq)
          rw [← HCN.out] at HCX
          have HQ := Lib.hid (HAT.out k q hq)
          clear hq
          by_cases h0 : q = 0
          · rw [if_pos h0] at HCX
            have h0b : (q != 0) = false := by simp [h0]
            clear h0
            go_wp2_with ((with_reducible show wpList _ _ _ (⟨some 32, _, _, _, _, _⟩ :: _) _ _); refine wpList_load_num rfl _ _ rfl Try.underlying3 HR4.out (5 + k) _ HQ.out rfl ?_)
            go_roundw
            case measure => simp [intOf]; omega
            case rel => exact ⟨k + 1, by omega, by simp, n, rfl, by omega, HCX.out.symm, by trivial⟩
          · rw [if_neg h0] at HCX
            have h0b : (q != 0) = true := by simp [h0]
            clear h0
            go_wp2_with ((with_reducible show wpList _ _ _ (⟨some 32, _, _, _, _, _⟩ :: _) _ _); refine wpList_load_num rfl _ _ rfl Try.underlying3 HR4.out (5 + k) _ HQ.out rfl ?_)
            go_roundw
            case measure => simp [intOf]; omega
            case rel => exact ⟨k + 1, by omega, by simp, n + 1, by simp, by omega, HCX.out.symm, by trivial⟩
        · have hge : (32 : Int) ≤ (k : Int) := by omega
          have hnC : n = C := by
            rw [HCN.out, ← HCE.out, List.take_of_length_le (by rw [HQL.out]; omega)]
          subst hnC
          clear HCE HCN HAT
          go_wp2_with (first
            | ((with_reducible show wpList _ _ _ (⟨some 36, _, _, _, _, _⟩ :: _) _ _); refine wpList_load_ino rfl _ rfl HR4.out HL.out rfl ?_)
            | (go_at_call 16; refine (HBL.out _).mono ?_; rintro e w5 ⟨rfl, hb5⟩)
            | (go_at_call 11; refine (awake_any _).mono ?_; rintro e w7 ⟨rfl, hb7⟩))
          go_ret
          have k4 := HKW.out.trans (HK4.out.mono HKW.out.size)
          have k5 := k4.trans (hb5.mono k4.size)
          exact ⟨rfl, k5.trans (hb7.mono k5.size)⟩
  · have HPUT := Lib.hid (fun w' => iputL_yes hl cx w')
    have HRP := Lib.hid (fun w' => riputL hl cx w')
    have hget : ∀ (A : Option Addr) (c : Nat) (W : World), Sl W W.heap.size 1 A (blkL xs).length ((blkL xs).map bv) → (blkL xs).length ≤ c → c ≤ maxLen → Calls Try.prog 9 #[.slice A (blkL xs).length c] W fun e w' => e = .returned (.tuple #[.agg (ints xs), .bool true]) ∧ Below W.heap.size W w' := by
      intro A c W hs h1 h2
      refine (iget_any A (blkL xs) c W (by rw [blk_len hl]; decide) hs h1 h2).mono ?_
      rintro e w' ⟨rfl, hb⟩
      rw [getV_blk hl cx, blk_isIno hl cx]
      exact ⟨rfl, hb⟩
    rw [cx] at hck hrk
    have HCK := Lib.hid hck
    have HRK := Lib.hid hrk
    have HGET := Lib.hid hget
    clear hck hrk cx hl hget
    generalize blkL xs = M at *
    go_enter Try.func6, Try.ntmps6
    go_wp2_with (first
      | ((with_reducible show wpList _ _ _ (⟨some 1, _, _, _, _, _⟩ :: _) _ _); refine wpList_box_ino rfl _ rfl HL.out rfl ?_; intro w1 hr1 hb1 hlt1)
      | ((with_reducible show wpList _ _ _ (⟨some 10, _, _, _, _, _⟩ :: _) _ _); refine wpList_load_ino rfl _ rfl hr1 HL.out rfl ?_)
      | (go_at_call 12; refine (HPUT.out _).mono ?_; rintro e w3 ⟨A3, c3, rfl, hs3, hc3, hcm3, hb3⟩))
    have HR := Lib.hid (hr1.below hb3 hlt1)
    have HKW := Lib.hid (hb1.trans (hb3.mono hb1.size))
    obtain ⟨b1, hb1e⟩ : ∃ b1, b1 = w.heap.size := ⟨_, rfl⟩
    rw [← hb1e] at HR hlt1 ⊢
    have HLT : Hid (b1 < w3.heap.size) := Nat.lt_of_lt_of_le hlt1 hb3.size
    have HE := Lib.hid hb1e
    have HSS := Lib.hid hs3
    have HC3 := Lib.hid (And.intro hc3 hcm3)
    clear hs3 hc3 hcm3
    clear hr1 hb1 hb3 hlt1 hb1e
    refine wp_region_rely (by kernel_rfl) (fun d u w' => match d with
      | 14 => u = (.agg (ints xs) : Value)
      | 15 => u = (.bool true : Value)
      | 16 => u = (.agg (ints xs) : Value)
      | 17 => u = (.bool true : Value)
      | 18 => u = (.bool false : Value)
      | 19 => u = (.bool false : Value)
      | 20 => u = (.bool true : Value)
      | 21 => u = (.agg (ints xs) : Value)
      | 22 => u = (.bool true : Value)
      | 23 => u = (.bool false : Value)
      | 24 => u = (.bool false : Value)
      | _ => True) 70 rfl (by decide +kernel) [24] ?_ ?_
    · refine AllSteps.cons (Step.plain rfl fun a w' K hl hK => ?_) ?_
      · have h1 : a.eval (.tmp 1) = (.pointer (some ⟨b1, 0, none⟩) : Value) := hl.old 1 rfl
        exact wp_load_ino rfl (HR.out.kept hl.kept HLT.out) HL.out h1 (hK _ _ (Kept.refl _) rfl)
      refine AllSteps.cons (Step.plain rfl fun a w' K hl hK => ?_) ?_
      · obtain ⟨_, _, _, h14⟩ := hl.dep 0 14 rfl rfl
        replace h14 : a.eval (.tmp 14) = _ := h14
        refine wp_call rfl Try.func14 rfl rfl #[.agg (ints xs)] (by simp [h14]) ?_
        refine (HCK.out w').mono ?_
        rintro e w7 ⟨rfl, hb7⟩
        exact ⟨_, rfl, hK _ _ hb7 rfl⟩
      refine AllSteps.cons (Step.plain rfl fun a w' K hl hK => ?_) ?_
      · have h1 : a.eval (.tmp 1) = (.pointer (some ⟨b1, 0, none⟩) : Value) := hl.old 1 rfl
        exact wp_load_ino rfl (HR.out.kept hl.kept HLT.out) HL.out h1 (hK _ _ (Kept.refl _) rfl)
      refine AllSteps.cons (Step.plain rfl fun a w' K hl hK => ?_) ?_
      · obtain ⟨_, _, _, h16⟩ := hl.dep 2 16 rfl rfl
        replace h16 : a.eval (.tmp 16) = _ := h16
        refine wp_call rfl Try.func15 rfl rfl #[.agg (ints xs)] (by simp [h16]) ?_
        refine (HRK.out w').mono ?_
        rintro e w7 ⟨rfl, hb7⟩
        exact ⟨_, rfl, hK _ _ hb7 rfl⟩
      refine AllSteps.cons (Step.plain rfl fun a w' K hl hK => ?_) ?_
      · obtain ⟨_, _, _, h15⟩ := hl.dep 1 15 rfl rfl
        replace h15 : a.eval (.tmp 15) = _ := h15
        obtain ⟨_, _, _, h17⟩ := hl.dep 3 17 rfl rfl
        replace h17 : a.eval (.tmp 17) = _ := h17
        refine wp_val (.bool false) ?_ (hK _ _ (Kept.refl _) rfl)
        clear hl hK
        generalize a.eval = ρ at *
        simp [execOp, go_sem, h15, h17]
      refine AllSteps.cons (Step.move _ rfl rfl fun a w' hl => let ⟨_, _, _, h⟩ := hl.dep 4 18 rfl rfl; h) ?_
      refine AllSteps.cons (Step.yes 5 false 19 rfl rfl rfl (fun _ _ h => h) fun a w' K hl hK => ?_) ?_
      · have h4 : a.eval (.tmp 4) = (.bool true : Value) := hl.old 4 rfl
        exact wp_val (a.eval (.tmp 4)) rfl (hK _ _ (Kept.refl _) h4)
      refine AllSteps.cons (Step.yes 5 false 19 rfl rfl rfl (fun _ _ h => h) fun a w' K hl hK => ?_) ?_
      · have h1 : a.eval (.tmp 1) = (.pointer (some ⟨b1, 0, none⟩) : Value) := hl.old 1 rfl
        exact wp_load_ino rfl (HR.out.kept hl.kept HLT.out) HL.out h1 (hK _ _ (Kept.refl _) rfl)
      refine AllSteps.cons (Step.yes 5 false 19 rfl rfl rfl (fun _ _ h => h) fun a w' K hl hK => ?_) ?_
      · obtain ⟨_, _, _, h21⟩ := hl.dep 7 21 rfl rfl
        replace h21 : a.eval (.tmp 21) = _ := h21
        refine wp_call rfl Try.func15 rfl rfl #[.agg (ints xs)] (by simp [h21]) ?_
        refine (HRK.out w').mono ?_
        rintro e w7 ⟨rfl, hb7⟩
        exact ⟨_, rfl, hK _ _ hb7 rfl⟩
      refine AllSteps.cons (Step.yes 5 false 19 rfl rfl rfl (fun _ _ h => h) fun a w' K hl hK => ?_) ?_
      · obtain ⟨_, _, _, h20⟩ := hl.dep 6 20 rfl rfl
        replace h20 : a.eval (.tmp 20) = _ := h20
        obtain ⟨_, _, _, h22⟩ := hl.dep 8 22 rfl rfl
        replace h22 : a.eval (.tmp 22) = _ := h22
        refine wp_val (.bool false) ?_ (hK _ _ (Kept.refl _) rfl)
        clear hl hK
        generalize a.eval = ρ at *
        simp [execOp, go_sem, h20, h22]
      refine AllSteps.cons (Step.plain rfl fun a w' K hl hK => ?_) ?_
      · obtain ⟨_, _, _, h19⟩ := hl.dep 5 19 rfl rfl
        replace h19 : a.eval (.tmp 19) = _ := h19
        obtain ⟨_, _, _, h23⟩ := hl.dep 9 23 rfl rfl
        replace h23 : a.eval (.tmp 23) = _ := h23
        exact wp_pick rfl false h19 (hK _ _ (Kept.refl _) h23)
      exact AllSteps.nil
    · intro f w4 hk4 hf
      obtain ⟨_, _, h24⟩ := hf 24 rfl rfl
      replace h24 : f 24 = .bool false := h24
      simp only [Exit.then, fill, dsts, List.filterMap_cons, List.filterMap_nil, List.foldl_cons, List.foldl_nil, Act.put, h24, List.setIfInBounds_toArray, List.set_cons_succ, List.set_cons_zero]
      clear hf h24
      generalize f 14 = u14
      generalize f 15 = u15
      generalize f 16 = u16
      generalize f 17 = u17
      generalize f 18 = u18
      generalize f 19 = u19
      generalize f 20 = u20
      generalize f 21 = u21
      generalize f 22 = u22
      generalize f 23 = u23
      have HR4 := Lib.hid (HR.out.kept hk4 HLT.out)
      have HK4 := Lib.hid hk4
      clear hk4
      go_wp2_with fail
      go_loopw [6, 5] (fun j c wr => ∃ k : Nat, k ≤ 32 ∧ j = .int .i64 (k : Int) ∧ ∃ n : Nat, c = .int .i64 (n : Int) ∧ n ≤ k ∧ n = ((QO.take k).filter fun p => !(p == 0)).length ∧ w4 = wr) (fun j _ _ => 32 - (intOf j).toNat)
      case atStart => exact ⟨0, by omega, rfl, 0, rfl, Nat.le_refl _, rfl, rfl⟩
      case round =>
        obtain ⟨k, hk, rfl, n, rfl, hnk, hn, rfl⟩ := hrel
        have HCN := Lib.hid hn
        clear hn
        by_cases hlt : k < 32
        · have hltI : (k : Int) < 32 := by omega
          obtain ⟨q, hq⟩ : ∃ q, QO[k]? = some q := ⟨_, List.getElem?_eq_getElem (by rw [HQL.out]; exact hlt)⟩
          have HCX := Lib.hid (cnt_next hq)
          rw [← HCN.out] at HCX
          have HQ := Lib.hid (HAT.out k q hq)
          clear hq
          by_cases h0 : q = 0
          · rw [if_pos h0] at HCX
            have h0b : (q != 0) = false := by simp [h0]
            clear h0
            go_wp2_with ((with_reducible show wpList _ _ _ (⟨some 32, _, _, _, _, _⟩ :: _) _ _); refine wpList_load_num rfl _ _ rfl Try.underlying3 HR4.out (5 + k) _ HQ.out rfl ?_)
            go_roundw
            case measure => simp [intOf]; omega
            case rel => exact ⟨k + 1, by omega, by simp, n, rfl, by omega, HCX.out.symm, by trivial⟩
          · rw [if_neg h0] at HCX
            have h0b : (q != 0) = true := by simp [h0]
            clear h0
            go_wp2_with ((with_reducible show wpList _ _ _ (⟨some 32, _, _, _, _, _⟩ :: _) _ _); refine wpList_load_num rfl _ _ rfl Try.underlying3 HR4.out (5 + k) _ HQ.out rfl ?_)
            go_roundw
            case measure => simp [intOf]; omega
            case rel => exact ⟨k + 1, by omega, by simp, n + 1, by simp, by omega, HCX.out.symm, by trivial⟩
        · have hge : (32 : Int) ≤ (k : Int) := by omega
          have hnC : n = C := by
            rw [HCN.out, ← HCE.out, List.take_of_length_le (by rw [HQL.out]; omega)]
          subst hnC
          clear HCE HCN HAT
          go_wp2_with (first
            | ((with_reducible show wpList _ _ _ (⟨some 36, _, _, _, _, _⟩ :: _) _ _); refine wpList_load_ino rfl _ rfl HR4.out HL.out rfl ?_)
            | (go_at_call 16; refine (HBL.out _).mono ?_; rintro e w5 ⟨rfl, hb5⟩; have HS5 := Lib.hid ((HSS.out.kept (Nat.le_refl _) HK4.out).kept (Nat.le_refl _) hb5))
            | (go_at_call 9; refine (HGET.out A3 c3 _ HS5.out HC3.out.1 HC3.out.2).mono ?_; rintro e w6 ⟨rfl, hb6⟩)
            | ((with_reducible show wpList _ _ _ (⟨some 7, _, _, _, _, _⟩ :: _) _ _); refine wpList_alloc_ino rfl rfl ?_; intro w8 hr8 hb8 hlt8)
            | ((with_reducible show wpList _ _ _ (⟨none, Op.store 26 (.tmp 7) _, _, _, _, _⟩ :: _) _ _); refine wpList_store_ino rfl _ _ rfl hr8 zIno_len HL.out rfl rfl ?_; intro w9 hr9 ho9))
          have k4 := HKW.out.trans (HK4.out.mono HKW.out.size)
          have k5 := k4.trans (hb5.mono k4.size)
          have k6 := k5.trans (hb6.mono k5.size)
          have k8 := k6.trans (hb8.mono k6.size)
          have k9 := ho9.below k8 k6.size
          have HK9 := Lib.hid k9
          have hlt4 := Nat.lt_of_lt_of_le HLT.out HK4.out.size
          have hr5 := HR4.out.below hb5 hlt4
          have hlt5 := Nat.lt_of_lt_of_le hlt4 hb5.size
          have hr6 := hr5.below hb6 hlt5
          have hlt6 := Nat.lt_of_lt_of_le hlt5 hb6.size
          have hr8' := hr6.below hb8 hlt6
          have HR9 := Lib.hid (hr8'.only ho9 (Nat.ne_of_lt hlt6))
          have HLT9 : Hid (b1 < w9.heap.size) := Nat.lt_of_lt_of_le (Nat.lt_of_lt_of_le hlt6 hb8.size) ho9.size
          have HS9 : Hid (Sl w9 w9.heap.size 1 A3 M.length (M.map bv)) := (Sl.only ((HS5.out.kept (Nat.le_refl _) hb6).below hb8) ho9 (Nat.le_refl _)).more (Nat.le_trans hb8.size ho9.size)
          obtain ⟨b7, hb7e⟩ : ∃ b7, b7 = w6.heap.size := ⟨_, rfl⟩
          have HR7 := Lib.hid hr9
          have HLT7 : Hid (w6.heap.size < w9.heap.size) := Nat.lt_of_lt_of_le hlt8 ho9.size
          rw [← hb7e] at HR7 HLT7 ⊢
          clear hr8 hb8 hlt8 hr9 ho9 hb5 hb6 k4 k5 k6 k8 k9 hlt4 hr5 hlt5 hr6 hlt6 hr8' hb7e HR HLT HS5 HR4 HK4 HKW HSS
          have HR := HR9
          have HLT := HLT9
          have HS3 := HS9
          clear HR9 HLT9 HS9
          refine wp_region_rely (by kernel_rfl) (fun d u w' => match d with
            | 2 => u = (.bool true : Value)
            | 53 => u = (.slice A3 (M : List UInt8).length c3 : Value)
            | 54 => u = (.string (str (M)) : Value)
            | 55 => u = (.agg (ints xs) : Value)
            | 56 => ∃ A c, u = .slice A (M : List UInt8).length c ∧ Sl w' w'.heap.size 1 A M.length (M.map bv)
            | 57 => u = (.string (str (M)) : Value)
            | 58 => u = (.bool true : Value)
            | 59 => u = (.bool true : Value)
            | 60 => u = (.bool true : Value)
            | 61 => u = (.bool true : Value)
            | 62 => u = (.bool true : Value)
            | 63 => u = (.agg (ints xs) : Value)
            | 64 => u = (.agg (ints xs) : Value)
            | 65 => u = (.bool true : Value)
            | 66 => u = (.bool true : Value)
            | 67 => u = (.bool true : Value)
            | 68 => u = (.bool true : Value)
            | 69 => u = (.bool true : Value)
            | _ => True) 70 rfl (by decide +kernel) [2] ?_ ?_
          · refine AllSteps.cons (Step.move _ rfl rfl fun a w' hl => hl.old 3 rfl) ?_
            refine AllSteps.cons (Step.plain rfl fun a w' K hl hK => ?_) ?_
            · obtain ⟨_, _, _, h53⟩ := hl.dep 0 53 rfl rfl
              replace h53 : a.eval (.tmp 53) = _ := h53
              exact wp_conv rfl Try.underlying22 Try.underlying5 Try.underlying9 h53 (HS3.out.kept (Nat.le_refl _) hl.kept) (hK _ _ (Kept.refl _) rfl)
            refine AllSteps.cons (Step.plain rfl fun a w' K hl hK => ?_) ?_
            · have h1 : a.eval (.tmp 1) = (.pointer (some ⟨b1, 0, none⟩) : Value) := hl.old 1 rfl
              exact wp_load_ino rfl (HR.out.kept hl.kept HLT.out) HL.out h1 (hK _ _ (Kept.refl _) rfl)
            refine AllSteps.cons (Step.plain rfl fun a w' K hl hK => ?_) ?_
            · obtain ⟨_, _, _, h55⟩ := hl.dep 2 55 rfl rfl
              replace h55 : a.eval (.tmp 55) = _ := h55
              refine wp_call rfl Try.func17 rfl rfl #[.agg (ints xs)] (by simp [h55]) ?_
              refine (HRP.out w').mono ?_
              rintro e w7 ⟨A7, c7, rfl, hs7, hb7⟩
              exact ⟨_, rfl, hK _ _ hb7 ⟨A7, c7, rfl, hs7⟩⟩
            refine AllSteps.cons (Step.plain rfl fun a w' K hl hK => ?_) ?_
            · obtain ⟨_, w1, hk1, A6, c6, h56, hs6⟩ := hl.dep 3 56 rfl rfl
              exact wp_conv rfl Try.underlying22 Try.underlying5 Try.underlying9 h56 (hs6.kept (Nat.le_refl _) hk1) (hK _ _ (Kept.refl _) rfl)
            refine AllSteps.cons (Step.plain rfl fun a w' K hl hK => ?_) ?_
            · obtain ⟨_, _, _, h54⟩ := hl.dep 1 54 rfl rfl
              replace h54 : a.eval (.tmp 54) = _ := h54
              obtain ⟨_, _, _, h57⟩ := hl.dep 4 57 rfl rfl
              replace h57 : a.eval (.tmp 57) = _ := h57
              exact wp_eql_str rfl h54 h57 _ (by simp) (hK _ _ (Kept.refl _) rfl)
            refine AllSteps.cons (Step.move _ rfl rfl fun a w' hl => let ⟨_, _, _, h⟩ := hl.dep 5 58 rfl rfl; h) ?_
            refine AllSteps.cons (Step.yes 6 true 59 rfl rfl rfl (fun _ _ h => h) fun a w' K hl hK => ?_) ?_
            · have h8 : a.eval (.tmp 8) = (.bool true : Value) := hl.old 8 rfl
              exact wp_val (a.eval (.tmp 8)) rfl (hK _ _ (Kept.refl _) h8)
            refine AllSteps.cons (Step.plain rfl fun a w' K hl hK => ?_) ?_
            · obtain ⟨_, _, _, h59⟩ := hl.dep 6 59 rfl rfl
              replace h59 : a.eval (.tmp 59) = _ := h59
              obtain ⟨_, _, _, h60⟩ := hl.dep 7 60 rfl rfl
              replace h60 : a.eval (.tmp 60) = _ := h60
              exact wp_pick rfl true h59 (hK _ _ (Kept.refl _) h60)
            refine AllSteps.cons (Step.move _ rfl rfl fun a w' hl => let ⟨_, _, _, h⟩ := hl.dep 8 61 rfl rfl; h) ?_
            refine AllSteps.cons (Step.yes 9 true 62 rfl rfl rfl (fun _ _ h => h) fun a w' K hl hK => ?_) ?_
            · have h7 : a.eval (.tmp 7) = (.pointer (some ⟨b7, 0, none⟩) : Value) := hl.old 7 rfl
              exact wp_load_ino rfl (HR7.out.kept hl.kept HLT7.out) HL.out h7 (hK _ _ (Kept.refl _) rfl)
            refine AllSteps.cons (Step.yes 9 true 62 rfl rfl rfl (fun _ _ h => h) fun a w' K hl hK => ?_) ?_
            · have h1 : a.eval (.tmp 1) = (.pointer (some ⟨b1, 0, none⟩) : Value) := hl.old 1 rfl
              exact wp_load_ino rfl (HR.out.kept hl.kept HLT.out) HL.out h1 (hK _ _ (Kept.refl _) rfl)
            refine AllSteps.cons (Step.yes 9 true 62 rfl rfl rfl (fun _ _ h => h) fun a w' K hl hK => ?_) ?_
            · obtain ⟨_, _, _, h63⟩ := hl.dep 10 63 rfl rfl
              replace h63 : a.eval (.tmp 63) = _ := h63
              obtain ⟨_, _, _, h64⟩ := hl.dep 11 64 rfl rfl
              replace h64 : a.eval (.tmp 64) = _ := h64
              exact wp_eql_ino rfl h63 h64 HL.out HL.out true (by simp) (hK _ _ (Kept.refl _) rfl)
            refine AllSteps.cons (Step.plain rfl fun a w' K hl hK => ?_) ?_
            · obtain ⟨_, _, _, h62⟩ := hl.dep 9 62 rfl rfl
              replace h62 : a.eval (.tmp 62) = _ := h62
              obtain ⟨_, _, _, h65⟩ := hl.dep 12 65 rfl rfl
              replace h65 : a.eval (.tmp 65) = _ := h65
              exact wp_pick rfl true h62 (hK _ _ (Kept.refl _) h65)
            refine AllSteps.cons (Step.move _ rfl rfl fun a w' hl => let ⟨_, _, _, h⟩ := hl.dep 13 66 rfl rfl; h) ?_
            refine AllSteps.cons (Step.yes 14 true 67 rfl rfl rfl (fun _ _ h => h) fun a w' K hl hK => ?_) ?_
            · refine wp_call rfl Try.func11 rfl rfl #[] (by simp) ?_
              refine (awake_any w').mono ?_
              rintro e w7 ⟨rfl, hb7⟩
              exact ⟨_, rfl, hK _ _ hb7 rfl⟩
            refine AllSteps.cons (Step.plain rfl fun a w' K hl hK => ?_) ?_
            · obtain ⟨_, _, _, h67⟩ := hl.dep 14 67 rfl rfl
              replace h67 : a.eval (.tmp 67) = _ := h67
              obtain ⟨_, _, _, h68⟩ := hl.dep 15 68 rfl rfl
              replace h68 : a.eval (.tmp 68) = _ := h68
              exact wp_pick rfl true h67 (hK _ _ (Kept.refl _) h68)
            refine AllSteps.cons (Step.assign _ rfl rfl fun a w' hl => let ⟨_, _, _, h⟩ := hl.dep 16 69 rfl rfl; h) ?_
            exact AllSteps.nil
          · intro f w10 hk10 hf
            obtain ⟨_, _, h2⟩ := hf 2 rfl rfl
            replace h2 : f 2 = .bool true := h2
            simp only [Exit.then, fill, dsts, List.filterMap_cons, List.filterMap_nil, List.foldl_cons, List.foldl_nil, Act.put, h2, List.setIfInBounds_toArray, List.set_cons_succ, List.set_cons_zero]
            clear hf
            go_wp2_with fail
            go_ret
            exact ⟨rfl, HK9.out.trans (Below.mono hk10 HK9.out.size)⟩
end Go.Proofs.Ytbhpkknimjmpjaa.In
