/-
  'InodeApart' walked: unlike inodes have unlike blocks.
-/
import Derived.Test.YtbhpkknimjmpjaaInode12
import Derived.Test.YtbhpkknimjmpjaaRowRely
namespace Go.Proofs.Ytbhpkknimjmpjaa.In
open Go.RowKit Wd Wi
set_option linter.unusedVariables false
attribute [local go_sem] str_toList str_append str_size

set_option maxRecDepth 100000 in
set_option maxHeartbeats 800000 in
theorem inodeApart_walk (xs ys : List Int) (w : World) (hx : xs.length = 37) (hy : ys.length = 37) :
    Calls Try.prog 4 #[.agg (ints xs), .agg (ints ys)] w fun e w' => e = .returned (.bool true) ∧ Below w.heap.size w w' := by
  have hboth : chkL xs = true → chkL ys = true → ((str (blkL xs)).toList == (str (blkL ys)).toList) = (xs == ys) := by
    intro cx cy
    rw [str_toList, str_toList]
    by_cases h : xs = ys
    · subst h; simp
    · have h2 : ¬ blkL xs = blkL ys := fun e => h ((blk_inj hx hy cx cy).1 e)
      rw [beq_eq_false_iff_ne.2 h, beq_eq_false_iff_ne.2 h2]
  have HX := Lib.hid hx
  have HY := Lib.hid hy
  have PX0 := fun w' h => Lib.hid (iputL_no hx h w')
  have PX1 := fun w' h => Lib.hid (iputL_yes hx h w')
  have PY0 := fun w' h => Lib.hid (iputL_no hy h w')
  have PY1 := fun w' h => Lib.hid (iputL_yes hy h w')
  clear hx hy
  cases cx : chkL xs <;> cases cy : chkL ys
  all_goals
    have CX := Lib.hid cx
    have CY := Lib.hid cy
    clear cx cy
  rotate_left 3
  · have HEQ := Lib.hid (hboth CX.out CY.out)
    clear hboth
    go_enter Try.func4, Try.ntmps4
    go_wp2_with (first
      | ((with_reducible show wpList _ _ _ (⟨some 2, _, _, _, _, _⟩ :: _) _ _); refine wpList_box_ino rfl _ rfl HX.out rfl ?_; intro w1 hr1 hb1 hlt1)
      | ((with_reducible show wpList _ _ _ (⟨some 3, _, _, _, _, _⟩ :: _) _ _); refine wpList_box_ino rfl _ rfl HY.out rfl ?_; intro w2 hr2 hb2 hlt2; replace hr1 := hr1.below hb2 hlt1)
      | ((with_reducible show wpList _ _ _ (⟨some 10, _, _, _, _, _⟩ :: _) _ _); refine wpList_load_ino rfl _ rfl hr1 HX.out rfl ?_)
      | (go_at_call 12; (with_reducible show Calls _ _ #[.agg (ints xs)] _ _); refine ((PX1 _ CX.out).out).mono ?_; rintro e w3 ⟨A1, c1, rfl, hs1, _, _, hb3⟩; replace hr1 := hr1.below hb3 (Nat.lt_trans hlt1 hlt2); replace hr2 := hr2.below hb3 hlt2)
      | ((with_reducible show wpList _ _ _ (⟨some 15, _, _, _, _, _⟩ :: _) _ _); refine wpList_load_ino rfl _ rfl hr2 HY.out rfl ?_)
      | (go_at_call 12; (with_reducible show Calls _ _ #[.agg (ints ys)] _ _); refine ((PY1 _ CY.out).out).mono ?_; rintro e w4 ⟨A2, c2, rfl, hs2, _, _, hb4⟩; have HR1 := Lib.hid (hr1.below hb4 (hr1.lt (by rw [HX.out]; decide))); have HR2 := Lib.hid (hr2.below hb4 (hr2.lt (by rw [HY.out]; decide))); have HS1 := Lib.hid (hs1.on (Nat.le_refl _) hb4); have HS2 := Lib.hid hs2; clear hs1 hs2 hr1 hr2))
    have k2 := hb1.trans (hb2.mono (Nat.le_of_lt hlt1))
    have k3 := k2.trans (hb3.mono k2.size)
    have KW := Lib.hid (k3.trans (hb4.mono k3.size))
    have HL1 : Hid (w.heap.size < w4.heap.size) := HR1.out.lt (by rw [HX.out]; decide)
    have HL2 : Hid (w1.heap.size < w4.heap.size) := HR2.out.lt (by rw [HY.out]; decide)
    clear k2 k3 hb1 hb2 hb3 hb4 hlt1 hlt2
    have hx := HX.out
    have hy := HY.out
    obtain ⟨b1, hb1⟩ : ∃ b1, b1 = w.heap.size := ⟨_, rfl⟩
    obtain ⟨b2, hb2⟩ : ∃ b2, b2 = w1.heap.size := ⟨_, rfl⟩
    rw [← hb1] at HL1 HR1 ⊢
    rw [← hb2] at HL2 HR2 ⊢
    have HB1 := Lib.hid hb1
    clear hb1 hb2
    refine wp_region_rely (by kernel_rfl) (fun d u w' => match d with
      | 4 => u = (.bool true : Value)
      | 26 => u = (.slice A1 (blkL xs).length c1 : Value)
      | 27 => u = (.string (str (blkL xs)) : Value)
      | 28 => u = (.slice A2 (blkL ys).length c2 : Value)
      | 29 => u = (.string (str (blkL ys)) : Value)
      | 30 => u = (.bool (xs == ys) : Value)
      | 31 => u = (.agg (ints xs) : Value)
      | 32 => u = (.agg (ints ys) : Value)
      | 33 => u = (.bool (xs == ys) : Value)
      | 34 => u = (.bool true : Value)
      | 35 => u = (.bool true : Value)
      | 36 => u = (.bool true : Value)
      | 37 => u = (.bool true : Value)
      | _ => True) 38 rfl (by decide +kernel) [4] ?_ ?_
    · refine AllSteps.cons (Step.move _ rfl rfl fun a w' hl => hl.old 5 rfl) ?_
      refine AllSteps.cons (Step.plain rfl fun a w' K hl hK => ?_) ?_
      · obtain ⟨_, _, _, h26⟩ := hl.dep 0 26 rfl rfl
        replace h26 : a.eval (.tmp 26) = _ := h26
        exact wp_conv rfl Try.underlying22 Try.underlying5 Try.underlying9 h26 (HS1.out.kept (Nat.le_refl _) hl.kept) (hK _ _ (Kept.refl _) rfl)
      refine AllSteps.cons (Step.move _ rfl rfl fun a w' hl => hl.old 7 rfl) ?_
      refine AllSteps.cons (Step.plain rfl fun a w' K hl hK => ?_) ?_
      · obtain ⟨_, _, _, h28⟩ := hl.dep 2 28 rfl rfl
        replace h28 : a.eval (.tmp 28) = _ := h28
        exact wp_conv rfl Try.underlying22 Try.underlying5 Try.underlying9 h28 (HS2.out.kept (Nat.le_refl _) hl.kept) (hK _ _ (Kept.refl _) rfl)
      refine AllSteps.cons (Step.plain rfl fun a w' K hl hK => ?_) ?_
      · obtain ⟨_, _, _, h27⟩ := hl.dep 1 27 rfl rfl
        replace h27 : a.eval (.tmp 27) = _ := h27
        obtain ⟨_, _, _, h29⟩ := hl.dep 3 29 rfl rfl
        replace h29 : a.eval (.tmp 29) = _ := h29
        exact wp_eql_str rfl h27 h29 _ HEQ.out (hK _ _ (Kept.refl _) rfl)
      refine AllSteps.cons (Step.plain rfl fun a w' K hl hK => ?_) ?_
      · have h2 : a.eval (.tmp 2) = (.pointer (some ⟨b1, 0, none⟩) : Value) := hl.old 2 rfl
        exact wp_load_ino rfl (HR1.out.kept hl.kept HL1.out) hx h2 (hK _ _ (Kept.refl _) rfl)
      refine AllSteps.cons (Step.plain rfl fun a w' K hl hK => ?_) ?_
      · have h3 : a.eval (.tmp 3) = (.pointer (some ⟨b2, 0, none⟩) : Value) := hl.old 3 rfl
        exact wp_load_ino rfl (HR2.out.kept hl.kept HL2.out) hy h3 (hK _ _ (Kept.refl _) rfl)
      refine AllSteps.cons (Step.plain rfl fun a w' K hl hK => ?_) ?_
      · obtain ⟨_, _, _, h31⟩ := hl.dep 5 31 rfl rfl
        replace h31 : a.eval (.tmp 31) = _ := h31
        obtain ⟨_, _, _, h32⟩ := hl.dep 6 32 rfl rfl
        replace h32 : a.eval (.tmp 32) = _ := h32
        exact wp_eql_ino rfl h31 h32 hx hy _ rfl (hK _ _ (Kept.refl _) rfl)
      refine AllSteps.cons (Step.plain rfl fun a w' K hl hK => ?_) ?_
      · obtain ⟨_, _, _, h30⟩ := hl.dep 4 30 rfl rfl
        replace h30 : a.eval (.tmp 30) = _ := h30
        obtain ⟨_, _, _, h33⟩ := hl.dep 7 33 rfl rfl
        replace h33 : a.eval (.tmp 33) = _ := h33
        refine wp_val (.bool true) ?_ (hK _ _ (Kept.refl _) rfl)
        clear hl hK
        generalize a.eval = ρ at *
        simp [execOp, go_sem, h30, h33]
      refine AllSteps.cons (Step.move _ rfl rfl fun a w' hl => let ⟨_, _, _, h⟩ := hl.dep 8 34 rfl rfl; h) ?_
      refine AllSteps.cons (Step.yes 9 true 35 rfl rfl rfl (fun _ _ h => h) fun a w' K hl hK => ?_) ?_
      · refine wp_call rfl Try.func11 rfl rfl #[] (by simp) ?_
        refine (awake_any w').mono ?_
        rintro e w7 ⟨rfl, hb7⟩
        exact ⟨_, rfl, hK _ _ hb7 rfl⟩
      refine AllSteps.cons (Step.plain rfl fun a w' K hl hK => ?_) ?_
      · obtain ⟨_, _, _, h35⟩ := hl.dep 9 35 rfl rfl
        replace h35 : a.eval (.tmp 35) = _ := h35
        obtain ⟨_, _, _, h36⟩ := hl.dep 10 36 rfl rfl
        replace h36 : a.eval (.tmp 36) = _ := h36
        exact wp_pick rfl true h35 (hK _ _ (Kept.refl _) h36)
      refine AllSteps.cons (Step.assign _ rfl rfl fun a w' hl => let ⟨_, _, _, h⟩ := hl.dep 11 37 rfl rfl; h) ?_
      exact AllSteps.nil
    · intro f w5 hk5 hf
      obtain ⟨_, _, h4⟩ := hf 4 rfl rfl
      replace h4 : f 4 = .bool true := h4
      simp only [Exit.then, fill, dsts, List.filterMap_cons, List.filterMap_nil, List.foldl_cons, List.foldl_nil, Act.put, h4, List.setIfInBounds_toArray, List.set_cons_succ, List.set_cons_zero]
      clear hf
      go_wp2_with fail
      go_ret
      exact ⟨rfl, KW.out.trans (Below.mono hk5 KW.out.size)⟩
  all_goals
    clear hboth
    go_enter Try.func4, Try.ntmps4
    go_wp2_with (first
      | ((with_reducible show wpList _ _ _ (⟨some 2, _, _, _, _, _⟩ :: _) _ _); refine wpList_box_ino rfl _ rfl HX.out rfl ?_; intro w1 hr1 hb1 hlt1)
      | ((with_reducible show wpList _ _ _ (⟨some 3, _, _, _, _, _⟩ :: _) _ _); refine wpList_box_ino rfl _ rfl HY.out rfl ?_; intro w2 hr2 hb2 hlt2; replace hr1 := hr1.below hb2 hlt1)
      | ((with_reducible show wpList _ _ _ (⟨some 10, _, _, _, _, _⟩ :: _) _ _); refine wpList_load_ino rfl _ rfl hr1 HX.out rfl ?_)
      | (go_at_call 12; (with_reducible show Calls _ _ #[.agg (ints xs)] _ _); (first | (refine ((PX0 _ CX.out).out).mono ?_; rintro e w3 ⟨rfl, hb3⟩) | (refine ((PX1 _ CX.out).out).mono ?_; rintro e w3 ⟨A1, c1, rfl, _, _, _, hb3⟩)); replace hr2 := hr2.below hb3 hlt2)
      | ((with_reducible show wpList _ _ _ (⟨some 15, _, _, _, _, _⟩ :: _) _ _); refine wpList_load_ino rfl _ rfl hr2 HY.out rfl ?_)
      | (go_at_call 12; (with_reducible show Calls _ _ #[.agg (ints ys)] _ _); (first | (refine ((PY0 _ CY.out).out).mono ?_; rintro e w4 ⟨rfl, hb4⟩) | (refine ((PY1 _ CY.out).out).mono ?_; rintro e w4 ⟨A2, c2, rfl, _, _, _, hb4⟩)))
      | (go_at_call 11; refine (awake_any _).mono ?_; rintro e w7 ⟨rfl, hb7⟩))
    go_ret
    have k2 := hb1.trans (hb2.mono (Nat.le_of_lt hlt1))
    have k3 := k2.trans (hb3.mono k2.size)
    have k4 := k3.trans (hb4.mono k3.size)
    exact ⟨rfl, k4.trans (hb7.mono k4.size)⟩
end Go.Proofs.Ytbhpkknimjmpjaa.In
