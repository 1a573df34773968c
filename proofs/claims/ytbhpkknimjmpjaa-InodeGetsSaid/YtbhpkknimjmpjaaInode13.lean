/-
  The document's Put of an inode that may be.
-/
import Derived.Test.YtbhpkknimjmpjaaInode8
import Derived.Test.YtbhpkknimjmpjaaRow
import Derived.Test.YtbhpkknimjmpjaaRelyE
import Derived.Test.YtbhpkknimjmpjaaRelyApp
namespace Go.Proofs.Ytbhpkknimjmpjaa.In
open Go.RowKit Wd Wi We
set_option linter.unusedVariables false

theorem rput_n (v k : Int) (n : Nat) (hn : (min k 8).toNat = n) (w : World) (hv : 0 ≤ v) (hv2 : v ≤ 16777215) (hk : -9223372036854775808 ≤ k := by omega) (hk2 : k ≤ 9223372036854775807 := by omega) :
    Calls Try.prog 25 #[.int .i64 v, .int .i64 k] w (ResW w (putB v n)) := by
  subst hn
  exact rput_own v k w (by omega) (by omega) hk hk2

set_option maxRecDepth 100000 in
set_option maxHeartbeats 1600000 in
theorem riput_yes (k0 s0 l0 o0 n0 : Int) (ps : List Int) (hps : ps.length = 32) (w : World) (h : chk k0 s0 l0 o0 n0 ps = true) :
    Calls Try.prog 17 #[.agg (ints (k0 :: s0 :: l0 :: o0 :: n0 :: ps))] w fun e w' => ∃ A c, e = .returned (.slice A 128 c) ∧ Sl w' w'.heap.size 1 A 128 ((blk k0 s0 l0 o0 n0 ps).map bv) ∧ Below w.heap.size w w' := by
  obtain ⟨⟨hk0, hk1⟩, ⟨hs0, hs1⟩, ⟨hl0, hl1⟩, ⟨ho0, ho1⟩, ⟨hn0, hn1⟩, hpb⟩ := chk_bd hps h
  obtain ⟨i0, hi, hz0, hz1, hz2⟩ := info_parts infoB
  have hlen : (k0 :: s0 :: l0 :: o0 :: n0 :: ps).length = 37 := by simp [hps]
  have hq0 : (k0 :: s0 :: l0 :: o0 :: n0 :: ps)[0]? = some k0 := rfl
  have hq1 : (k0 :: s0 :: l0 :: o0 :: n0 :: ps)[1]? = some s0 := rfl
  have hq2 : (k0 :: s0 :: l0 :: o0 :: n0 :: ps)[2]? = some l0 := rfl
  have hq3 : (k0 :: s0 :: l0 :: o0 :: n0 :: ps)[3]? = some o0 := rfl
  have hq4 : (k0 :: s0 :: l0 :: o0 :: n0 :: ps)[4]? = some n0 := rfl
  have hqp : ∀ (i : Nat) (v : Int), ps[i]? = some v → (k0 :: s0 :: l0 :: o0 :: n0 :: ps)[5 + i]? = some v := fun i v h => by rw [Nat.add_comm]; simpa using h
  generalize (k0 :: s0 :: l0 :: o0 :: n0 :: ps) = xs at *
  have HL := Lib.hid hlen
  have HQ := Lib.hid (And.intro hq0 (And.intro hq1 (And.intro hq2 (And.intro hq3 hq4))))
  have HQP := Lib.hid hqp
  have HPB := Lib.hid hpb
  clear hlen hq0 hq1 hq2 hq3 hq4 hqp hpb h
  go_enter Try.func17, Try.ntmps17
  go_wp2_with (first
    | ((with_reducible show wpList _ _ _ (⟨some 1, _, _, _, _, _⟩ :: _) _ _); refine wpList_box_ino rfl _ rfl HL.out rfl ?_; intro w1 hr1 hb1 hlt1)
    | ((with_reducible show wpList _ _ _ (⟨some 6, _, _, _, _, _⟩ :: _) _ _); refine wpList_load_num rfl _ _ rfl Try.underlying3 hr1 0 _ HQ.out.1 rfl ?_)
    | (go_at_call 25; refine (rput_n k0 1 1 rfl w1 hk0 (by omega)).mono ?_; rintro e w2 ⟨A1, c1, rfl, ho, hb2⟩))
  obtain ⟨b1, hb1e⟩ : ∃ b1, b1 = w.heap.size := ⟨_, rfl⟩
  obtain ⟨B0, hB0e⟩ : ∃ B0, B0 = w1.heap.size := ⟨_, rfl⟩
  have hr2 := hr1.below hb2 hlt1
  rw [← hb1e] at hr1 hr2 hlt1 ⊢
  rw [← hB0e] at ho hlt1
  have HO := Lib.hid ho
  have HB0 : Hid (B0 ≤ w2.heap.size) := by rw [hB0e]; exact hb2.size
  have HW : Hid (w2.heap.size ≤ w2.heap.size) := Nat.le_refl _
  have HB1 : Hid (b1 < B0) := hlt1
  have HG : Hid (∀ g, (Value.slice A1 (putB k0 1).length c1).ownBlock = some g → g < w2.heap.size) := fun g hg => (own_lt ho g hg).2
  have HR2 := Lib.hid hr2
  have hc1 := hr2.cell 1 _ HQ.out.2.1
  have hc2 := hr2.cell 2 _ HQ.out.2.2.1
  have HKW := Lib.hid (hb1.trans (hb2.mono hb1.size))
  have HE := Lib.hid (And.intro hb1e hB0e)
  clear ho hr1 hr2 hb1 hb2 hlt1 hb1e hB0e
  refine wp_region_e B0 HB0.out (by kernel_rfl) (fun d u w' => match d with
    | 3 => BO w' B0 (putB k0 1 ++ putB s0 2 ++ putB l0 2) u
    | 8 => u = (.slice A1 (putB k0 1 : List UInt8).length c1 : Value)
    | 9 => u = (.pointer (some ⟨b1, 1, none⟩) : Value)
    | 10 => u = (.int .i64 s0 : Value)
    | 11 => BO w' w2.heap.size (putB s0 2) u
    | 12 => BO w' B0 (putB k0 1 ++ putB s0 2) u
    | 13 => u = (.pointer (some ⟨b1, 2, none⟩) : Value)
    | 14 => u = (.int .i64 l0 : Value)
    | 15 => BO w' w2.heap.size (putB l0 2) u
    | 16 => BO w' B0 (putB k0 1 ++ putB s0 2 ++ putB l0 2) u
    | _ => True) 39 rfl (by decide +kernel) [3] 4 (fun w => w.ownsRow B0 5 1 (.slice A1 (putB k0 1 : List UInt8).length c1) (putB k0 1 : List UInt8).length ((putB k0 1 : List UInt8).map bv)) HO.out (fun x y hk ho => own_keep ho fun g hg => hk.block g (own_lt ho g hg).2) ?_ ?_
  · refine AllSteps.cons (StepE.move _ rfl rfl fun a w' hl => hl.early 9 3 rfl rfl) ?_
    refine AllSteps.cons (StepE.plain rfl fun a w' K hl hK => ?_) ?_
    · have h1 : a.eval (.tmp 1) = (.pointer (some ⟨b1, 0, none⟩) : Value) := hl.old 1 rfl
      refine wp_val (.pointer (some ⟨b1, 1, none⟩)) ?_ (hK _ _ (Kept.refl _) rfl)
      clear hl hK
      generalize a.eval = ρ at *
      simp [execOp, go_sem, h1]
    refine AllSteps.cons (StepE.plain rfl fun a w' K hl hK => ?_) ?_
    · obtain ⟨_, _, _, h9⟩ := hl.dep 1 9 rfl rfl
      replace h9 : a.eval (.tmp 9) = _ := h9
      have hcell : w'.cell? ⟨b1, 1, none⟩ = some (.int .i64 s0) := (Below.cell hl.kept HB1.out).trans hc1
      refine wp_val (.int .i64 s0) ?_ (hK _ _ (Kept.refl _) rfl)
      clear hl hK
      generalize a.eval = ρ at *
      simp [execOp, go_sem, h9, hcell]
    refine AllSteps.cons (StepE.plain rfl fun a w' K hl hK => ?_) ?_
    · obtain ⟨_, _, _, h10⟩ := hl.dep 2 10 rfl rfl
      replace h10 : a.eval (.tmp 10) = _ := h10
      refine wp_call rfl Try.func25 rfl rfl #[.int .i64 s0, .int .i64 2] (by have hconst : ∀ x, a.eval (.const x) = x := (fun _ => rfl); simp [h10, hconst]) ?_
      refine (rput_n s0 2 2 rfl w' (by omega) (by omega)).mono ?_
      rintro e w7 ⟨A7, c7, rfl, ho7, hb7⟩
      exact ⟨_, rfl, hK _ _ hb7 ⟨A7, c7, rfl, own_low ho7 (Nat.le_trans HW.out hl.kept.size)⟩⟩
    refine AllSteps.cons (StepE.raw rfl fun a w' K hl hK => ?_) ?_
    · obtain ⟨_, _, _, h8⟩ := hl.dep 0 8 rfl rfl
      replace h8 : a.eval (.tmp 8) = _ := h8
      obtain ⟨_, w1, hk1, ⟨A1x, c1x, h1x, ho1x⟩⟩ := hl.dep 3 11 rfl rfl
      obtain ⟨A5, c5, h5, ho5⟩ := BO.kept (show BO w1 w2.heap.size (putB s0 2) (a.eval (.tmp 11)) from ⟨A1x, c1x, h1x, ho1x⟩) hk1
      refine wp_append_bytes rfl B0 (Nat.le_trans HB0.out hl.kept.size) h8 h5 (hl.still (.inl rfl)) (Sl.own ho5) (by simp [putB_len]) fun u wz hbo hb2 hne => hK u wz hb2 (fun d u' hd hlv hlt hsn => ?_) (.inl rfl) hbo
      obtain ⟨w8, hk8, h8⟩ := hsn
      refine ⟨wz, Kept.refl _, ?_⟩
      by_cases h15 : d = 15
      · subst h15
        obtain ⟨A6, c6, h6, ho6⟩ := BO.kept (show BO w8 w2.heap.size (putB l0 2) u' from h8) hk8
        exact ⟨A6, c6, h6, own_keep ho6 fun g hg => hne g (own_lt ho6 g hg).2 (fun hg2 => by have h1 := (own_lt ho6 g hg).1; have h2 := HG.out g hg2; omega)⟩
      by_cases h11 : d = 11
      · subst h11; exact absurd hlv (by decide +kernel)
      by_cases h12 : d = 12
      · subst h12; exact absurd rfl hd
      by_cases h16 : d = 16
      · subst h16; exact absurd hlt (by decide +kernel)
      by_cases h3 : d = 3
      · subst h3; exact absurd hlt (by decide +kernel)
      clear hl hK hlv hlt hd
      dsimp only at h8 ⊢
      split at h8 <;> first | exact h8 | exact absurd rfl h15 | exact absurd rfl h11 | exact absurd rfl h12 | exact absurd rfl h16 | exact absurd rfl h3 | (split <;> first | trivial | (exfalso; simp_all))
    refine AllSteps.cons (StepE.plain rfl fun a w' K hl hK => ?_) ?_
    · have h1 : a.eval (.tmp 1) = (.pointer (some ⟨b1, 0, none⟩) : Value) := hl.old 1 rfl
      refine wp_val (.pointer (some ⟨b1, 2, none⟩)) ?_ (hK _ _ (Kept.refl _) rfl)
      clear hl hK
      generalize a.eval = ρ at *
      simp [execOp, go_sem, h1]
    refine AllSteps.cons (StepE.plain rfl fun a w' K hl hK => ?_) ?_
    · obtain ⟨_, _, _, h13⟩ := hl.dep 5 13 rfl rfl
      replace h13 : a.eval (.tmp 13) = _ := h13
      have hcell : w'.cell? ⟨b1, 2, none⟩ = some (.int .i64 l0) := (Below.cell hl.kept HB1.out).trans hc2
      refine wp_val (.int .i64 l0) ?_ (hK _ _ (Kept.refl _) rfl)
      clear hl hK
      generalize a.eval = ρ at *
      simp [execOp, go_sem, h13, hcell]
    refine AllSteps.cons (StepE.plain rfl fun a w' K hl hK => ?_) ?_
    · obtain ⟨_, _, _, h14⟩ := hl.dep 6 14 rfl rfl
      replace h14 : a.eval (.tmp 14) = _ := h14
      refine wp_call rfl Try.func25 rfl rfl #[.int .i64 l0, .int .i64 2] (by have hconst : ∀ x, a.eval (.const x) = x := (fun _ => rfl); simp [h14, hconst]) ?_
      refine (rput_n l0 2 2 rfl w' (by omega) (by omega)).mono ?_
      rintro e w7 ⟨A7, c7, rfl, ho7, hb7⟩
      exact ⟨_, rfl, hK _ _ hb7 ⟨A7, c7, rfl, own_low ho7 (Nat.le_trans HW.out hl.kept.size)⟩⟩
    refine AllSteps.cons (StepE.raw rfl fun a w' K hl hK => ?_) ?_
    · obtain ⟨_, wA, hkA, A3x, c3x, h3x, ho3x⟩ := hl.dep 4 12 rfl rfl
      obtain ⟨_, wB, hkB, A2x, c2x, h2x, ho2x⟩ := hl.dep 7 15 rfl rfl
      obtain ⟨A5, c5, h5, ho5⟩ := BO.kept (show BO wA B0 (putB k0 1 ++ putB s0 2) (a.eval (.tmp 12)) from ⟨A3x, c3x, h3x, ho3x⟩) hkA
      obtain ⟨A6, c6, h6, ho6⟩ := BO.kept (show BO wB w2.heap.size (putB l0 2) (a.eval (.tmp 15)) from ⟨A2x, c2x, h2x, ho2x⟩) hkB
      refine wp_append_bytes rfl B0 (Nat.le_trans HB0.out hl.kept.size) h5 h6 ho5 (Sl.own ho6) (by simp [putB_len]) fun u wz hbo hb2 hne => hK u wz hb2 (fun d u' hd hlv hlt hsn => ?_) (.inr (.inl (by decide +kernel))) hbo
      obtain ⟨w8, hk8, h8⟩ := hsn
      refine ⟨wz, Kept.refl _, ?_⟩
      by_cases h15 : d = 15
      · subst h15; exact absurd hlv (by decide +kernel)
      by_cases h11 : d = 11
      · subst h11; exact absurd hlv (by decide +kernel)
      by_cases h12 : d = 12
      · subst h12; exact absurd hlv (by decide +kernel)
      by_cases h16 : d = 16
      · subst h16; exact absurd rfl hd
      by_cases h3 : d = 3
      · subst h3; exact absurd hlt (by decide +kernel)
      clear hl hK hlv hlt hd
      dsimp only at h8 ⊢
      split at h8 <;> first | exact h8 | exact absurd rfl h15 | exact absurd rfl h11 | exact absurd rfl h12 | exact absurd rfl h16 | exact absurd rfl h3 | (split <;> first | trivial | (exfalso; simp_all))
    refine AllSteps.cons (StepE.assign _ rfl rfl fun a w' hl => let ⟨_, _, hk, h⟩ := hl.dep 8 16 rfl rfl; BO.kept h hk) ?_
    exact AllSteps.nil
  · intro f w3 hk3 hf
    obtain ⟨wq, hq, A3, c3, h4, ho3⟩ := hf 3 rfl rfl
    replace ho3 := own_keep ho3 fun g hg => hq.block g (own_lt ho3 g hg).2
    replace h4 : f 3 = _ := h4
    simp only [Exit.then, fill, dsts, List.filterMap_cons, List.filterMap_nil, List.foldl_cons, List.foldl_nil, Act.put, h4, List.setIfInBounds_toArray, List.set_cons_succ, List.set_cons_zero]
    clear hf h4 hq hc1 hc2 HO HG HW
    generalize f 8 = u8
    generalize f 9 = u9
    generalize f 10 = u10
    generalize f 11 = u11
    generalize f 12 = u12
    generalize f 13 = u13
    generalize f 14 = u14
    generalize f 15 = u15
    generalize f 16 = u16
    have HO := Lib.hid ho3
    replace HB0 : Hid (B0 ≤ w3.heap.size) := Nat.le_trans HB0.out hk3.size
    have HW : Hid (w3.heap.size ≤ w3.heap.size) := Nat.le_refl _
    have HG : Hid (∀ g, (Value.slice A3 (putB k0 1 ++ putB s0 2 ++ putB l0 2).length c3).ownBlock = some g → g < w3.heap.size) := fun g hg => (own_lt ho3 g hg).2
    have hr3 := HR2.out.below hk3 HB1.out
    have hc3 := hr3.cell 3 _ HQ.out.2.2.2.1
    have hc4 := hr3.cell 4 _ HQ.out.2.2.2.2
    have HK3 := Lib.hid hk3
    clear ho3 hr3 hk3
    go_wp2_with fail
    refine wp_region_e B0 HB0.out (by kernel_rfl) (fun d u w' => match d with
      | 3 => BO w' B0 (putB k0 1 ++ putB s0 2 ++ putB l0 2 ++ putB o0 3 ++ putB n0 3) u
      | 17 => u = (.slice A3 (putB k0 1 ++ putB s0 2 ++ putB l0 2 : List UInt8).length c3 : Value)
      | 18 => u = (.pointer (some ⟨b1, 3, none⟩) : Value)
      | 19 => u = (.int .i64 o0 : Value)
      | 20 => BO w' w3.heap.size (putB o0 3) u
      | 21 => BO w' B0 (putB k0 1 ++ putB s0 2 ++ putB l0 2 ++ putB o0 3) u
      | 22 => u = (.pointer (some ⟨b1, 4, none⟩) : Value)
      | 23 => u = (.int .i64 n0 : Value)
      | 24 => BO w' w3.heap.size (putB n0 3) u
      | 25 => BO w' B0 (putB k0 1 ++ putB s0 2 ++ putB l0 2 ++ putB o0 3 ++ putB n0 3) u
      | _ => True) 39 rfl (by decide +kernel) [3] 4 (fun w => w.ownsRow B0 5 1 (.slice A3 (putB k0 1 ++ putB s0 2 ++ putB l0 2 : List UInt8).length c3) (putB k0 1 ++ putB s0 2 ++ putB l0 2 : List UInt8).length ((putB k0 1 ++ putB s0 2 ++ putB l0 2 : List UInt8).map bv)) HO.out (fun x y hk ho => own_keep ho fun g hg => hk.block g (own_lt ho g hg).2) ?_ ?_
    · refine AllSteps.cons (StepE.move _ rfl rfl fun a w' hl => hl.early 9 3 rfl rfl) ?_
      refine AllSteps.cons (StepE.plain rfl fun a w' K hl hK => ?_) ?_
      · have h1 : a.eval (.tmp 1) = (.pointer (some ⟨b1, 0, none⟩) : Value) := hl.old 1 rfl
        refine wp_val (.pointer (some ⟨b1, 3, none⟩)) ?_ (hK _ _ (Kept.refl _) rfl)
        clear hl hK
        generalize a.eval = ρ at *
        simp [execOp, go_sem, h1]
      refine AllSteps.cons (StepE.plain rfl fun a w' K hl hK => ?_) ?_
      · obtain ⟨_, _, _, h18⟩ := hl.dep 1 18 rfl rfl
        replace h18 : a.eval (.tmp 18) = _ := h18
        have hcell : w'.cell? ⟨b1, 3, none⟩ = some (.int .i64 o0) := (Below.cell hl.kept HB1.out).trans hc3
        refine wp_val (.int .i64 o0) ?_ (hK _ _ (Kept.refl _) rfl)
        clear hl hK
        generalize a.eval = ρ at *
        simp [execOp, go_sem, h18, hcell]
      refine AllSteps.cons (StepE.plain rfl fun a w' K hl hK => ?_) ?_
      · obtain ⟨_, _, _, h19⟩ := hl.dep 2 19 rfl rfl
        replace h19 : a.eval (.tmp 19) = _ := h19
        refine wp_call rfl Try.func25 rfl rfl #[.int .i64 o0, .int .i64 3] (by have hconst : ∀ x, a.eval (.const x) = x := (fun _ => rfl); simp [h19, hconst]) ?_
        refine (rput_n o0 3 3 rfl w' (by omega) (by omega)).mono ?_
        rintro e w7 ⟨A7, c7, rfl, ho7, hb7⟩
        exact ⟨_, rfl, hK _ _ hb7 ⟨A7, c7, rfl, own_low ho7 (Nat.le_trans HW.out hl.kept.size)⟩⟩
      refine AllSteps.cons (StepE.raw rfl fun a w' K hl hK => ?_) ?_
      · obtain ⟨_, _, _, h17⟩ := hl.dep 0 17 rfl rfl
        replace h17 : a.eval (.tmp 17) = _ := h17
        obtain ⟨_, w1, hk1, ⟨A1x, c1x, h1x, ho1x⟩⟩ := hl.dep 3 20 rfl rfl
        obtain ⟨A5, c5, h5, ho5⟩ := BO.kept (show BO w1 w3.heap.size (putB o0 3) (a.eval (.tmp 20)) from ⟨A1x, c1x, h1x, ho1x⟩) hk1
        refine wp_append_bytes rfl B0 (Nat.le_trans HB0.out hl.kept.size) h17 h5 (hl.still (.inl rfl)) (Sl.own ho5) (by simp [putB_len]) fun u wz hbo hb2 hne => hK u wz hb2 (fun d u' hd hlv hlt hsn => ?_) (.inl rfl) hbo
        obtain ⟨w8, hk8, h8⟩ := hsn
        refine ⟨wz, Kept.refl _, ?_⟩
        by_cases h15 : d = 24
        · subst h15
          obtain ⟨A6, c6, h6, ho6⟩ := BO.kept (show BO w8 w3.heap.size (putB n0 3) u' from h8) hk8
          exact ⟨A6, c6, h6, own_keep ho6 fun g hg => hne g (own_lt ho6 g hg).2 (fun hg2 => by have h1 := (own_lt ho6 g hg).1; have h2 := HG.out g hg2; omega)⟩
        by_cases h11 : d = 20
        · subst h11; exact absurd hlv (by decide +kernel)
        by_cases h12 : d = 21
        · subst h12; exact absurd rfl hd
        by_cases h16 : d = 25
        · subst h16; exact absurd hlt (by decide +kernel)
        by_cases h3 : d = 3
        · subst h3; exact absurd hlt (by decide +kernel)
        clear hl hK hlv hlt hd
        dsimp only at h8 ⊢
        split at h8 <;> first | exact h8 | exact absurd rfl h15 | exact absurd rfl h11 | exact absurd rfl h12 | exact absurd rfl h16 | exact absurd rfl h3 | (split <;> first | trivial | (exfalso; simp_all))
      refine AllSteps.cons (StepE.plain rfl fun a w' K hl hK => ?_) ?_
      · have h1 : a.eval (.tmp 1) = (.pointer (some ⟨b1, 0, none⟩) : Value) := hl.old 1 rfl
        refine wp_val (.pointer (some ⟨b1, 4, none⟩)) ?_ (hK _ _ (Kept.refl _) rfl)
        clear hl hK
        generalize a.eval = ρ at *
        simp [execOp, go_sem, h1]
      refine AllSteps.cons (StepE.plain rfl fun a w' K hl hK => ?_) ?_
      · obtain ⟨_, _, _, h22⟩ := hl.dep 5 22 rfl rfl
        replace h22 : a.eval (.tmp 22) = _ := h22
        have hcell : w'.cell? ⟨b1, 4, none⟩ = some (.int .i64 n0) := (Below.cell hl.kept HB1.out).trans hc4
        refine wp_val (.int .i64 n0) ?_ (hK _ _ (Kept.refl _) rfl)
        clear hl hK
        generalize a.eval = ρ at *
        simp [execOp, go_sem, h22, hcell]
      refine AllSteps.cons (StepE.plain rfl fun a w' K hl hK => ?_) ?_
      · obtain ⟨_, _, _, h23⟩ := hl.dep 6 23 rfl rfl
        replace h23 : a.eval (.tmp 23) = _ := h23
        refine wp_call rfl Try.func25 rfl rfl #[.int .i64 n0, .int .i64 3] (by have hconst : ∀ x, a.eval (.const x) = x := (fun _ => rfl); simp [h23, hconst]) ?_
        refine (rput_n n0 3 3 rfl w' (by omega) (by omega)).mono ?_
        rintro e w7 ⟨A7, c7, rfl, ho7, hb7⟩
        exact ⟨_, rfl, hK _ _ hb7 ⟨A7, c7, rfl, own_low ho7 (Nat.le_trans HW.out hl.kept.size)⟩⟩
      refine AllSteps.cons (StepE.raw rfl fun a w' K hl hK => ?_) ?_
      · obtain ⟨_, wA, hkA, A3x, c3x, h3x, ho3x⟩ := hl.dep 4 21 rfl rfl
        obtain ⟨_, wB, hkB, A2x, c2x, h2x, ho2x⟩ := hl.dep 7 24 rfl rfl
        obtain ⟨A5, c5, h5, ho5⟩ := BO.kept (show BO wA B0 (putB k0 1 ++ putB s0 2 ++ putB l0 2 ++ putB o0 3) (a.eval (.tmp 21)) from ⟨A3x, c3x, h3x, ho3x⟩) hkA
        obtain ⟨A6, c6, h6, ho6⟩ := BO.kept (show BO wB w3.heap.size (putB n0 3) (a.eval (.tmp 24)) from ⟨A2x, c2x, h2x, ho2x⟩) hkB
        refine wp_append_bytes rfl B0 (Nat.le_trans HB0.out hl.kept.size) h5 h6 ho5 (Sl.own ho6) (by simp [putB_len]) fun u wz hbo hb2 hne => hK u wz hb2 (fun d u' hd hlv hlt hsn => ?_) (.inr (.inl (by decide +kernel))) hbo
        obtain ⟨w8, hk8, h8⟩ := hsn
        refine ⟨wz, Kept.refl _, ?_⟩
        by_cases h15 : d = 24
        · subst h15; exact absurd hlv (by decide +kernel)
        by_cases h11 : d = 20
        · subst h11; exact absurd hlv (by decide +kernel)
        by_cases h12 : d = 21
        · subst h12; exact absurd hlv (by decide +kernel)
        by_cases h16 : d = 25
        · subst h16; exact absurd rfl hd
        by_cases h3 : d = 3
        · subst h3; exact absurd hlt (by decide +kernel)
        clear hl hK hlv hlt hd
        dsimp only at h8 ⊢
        split at h8 <;> first | exact h8 | exact absurd rfl h15 | exact absurd rfl h11 | exact absurd rfl h12 | exact absurd rfl h16 | exact absurd rfl h3 | (split <;> first | trivial | (exfalso; simp_all))
      refine AllSteps.cons (StepE.assign _ rfl rfl fun a w' hl => let ⟨_, _, hk, h⟩ := hl.dep 8 25 rfl rfl; BO.kept h hk) ?_
      exact AllSteps.nil
    · intro f w4 hk4 hf
      obtain ⟨wq, hq, A4, c4, h4, ho4⟩ := hf 3 rfl rfl
      replace ho4 := own_keep ho4 fun g hg => hq.block g (own_lt ho4 g hg).2
      replace h4 : f 3 = _ := h4
      simp only [Exit.then, fill, dsts, List.filterMap_cons, List.filterMap_nil, List.foldl_cons, List.foldl_nil, Act.put, h4, List.setIfInBounds_toArray, List.set_cons_succ, List.set_cons_zero]
      clear hf h4 hq hc3 hc4 HO HG HW
      replace HB0 : Hid (B0 ≤ w4.heap.size) := Nat.le_trans HB0.out hk4.size
      have HK4 : Hid (Below B0 w2 w4) := HK3.out.trans hk4
      obtain ⟨H, hH⟩ : ∃ H, H = hdrB k0 s0 l0 o0 n0 := ⟨_, rfl⟩
      have hH2 : putB k0 1 ++ putB s0 2 ++ putB l0 2 ++ putB o0 3 ++ putB n0 3 = H := hH.symm
      have hHl : H.length = 11 := by rw [hH, hdrB_len]
      rw [hH2] at ho4 ⊢
      have HO4 := Lib.hid ho4
      have HHL := Lib.hid hHl
      have HH := Lib.hid hH
      clear ho4 hH hH2 hHl hk4 HK3
      go_wp2_with fail
      go_loopw [4, 3] (fun j b wr => ∃ k : Nat, k ≤ 32 ∧ j = .int .i64 (k : Int) ∧ BO wr B0 (H ++ ptrB (ps.take k)) b ∧ Below B0 w2 wr ∧ B0 ≤ wr.heap.size) (fun j _ _ => 32 - (intOf j).toNat)
      case atStart => exact ⟨0, by omega, rfl, ⟨A4, c4, by simp [ptrB], by simpa [ptrB] using HO4.out⟩, HK4.out, HB0.out⟩
      case round =>
        obtain ⟨k, hk, rfl, ⟨A5, c5, rfl, ho5⟩, hkr, hBr⟩ := hrel
        by_cases hlt2 : k < 32
        · have hltI : (k : Int) < 32 := by omega
          obtain ⟨p, hp⟩ : ∃ p, ps[k]? = some p := ⟨ps[k], List.getElem?_eq_getElem (by omega)⟩
          obtain ⟨hp0, hp1⟩ := HPB.out k p hp
          have HRW := Lib.hid (HR2.out.below hkr HB1.out)
          have HPP := Lib.hid (HQP.out k p hp)
          have HN := Lib.hid (ptrB_next hp)
          have HKR := Lib.hid hkr
          have hll : (H ++ ptrB (ps.take k)).length ≤ 75 := by
            rw [List.length_append, ptrB_len, HHL.out, List.length_take]
            omega
          obtain ⟨M, hM⟩ : ∃ M, M = H ++ ptrB (ps.take k) := ⟨_, rfl⟩
          rw [← hM] at ho5 hll ⊢
          have HM := Lib.hid hM
          have HO5 := Lib.hid ho5
          have hpl : (putB p 2).length = 2 := putB_len p 2
          have HPL := Lib.hid hpl
          clear hp hkr hM ho5 hpl
          go_wp2_with (first
            | ((with_reducible show wpList _ _ _ (⟨some 34, _, _, _, _, _⟩ :: _) _ _); refine wpList_load_num rfl _ _ rfl Try.underlying3 HRW.out (5 + k) _ HPP.out rfl ?_)
            | (go_at_call 25; refine (rput_n p 2 2 rfl _ hp0 (by omega)).mono ?_; rintro e w6 ⟨A6, c6, rfl, ho6, hb6⟩)
            | (at_builtin; refine wpList_append_mine rfl (.tmp 30) (.tmp 35) _ _ rfl B0 5 i0 (.int .u8 0) 1 1 hz1 hz2 rfl (by decide) _ _ _ rfl (.inr (own_keep HO5.out fun g hg => hb6.block g (own_lt HO5.out g hg).2)) _ (putB p 2).length ((putB p 2).map bv) rfl (Gives.slice Try.underlying22 hi hz0 (by rw [hz1]; exact Sl.own ho6) (bv_one _)) (by rw [HPL.out]; simp only [maxLen]; omega) (by rw [HPL.out]; omega) (Nat.le_trans hBr hb6.size) ?_; intro A7 c7 w7 hm7 hg7 hb7 hat7 hown7))
          go_roundw
          case measure => simp [intOf]; omega
          case rel =>
            have ho7 := hown7 (.inl (by rw [HPL.out]; decide))
            have e : M ++ putB p 2 = H ++ ptrB (ps.take (k + 1)) := by rw [HM.out, HN.out, List.append_assoc]
            rw [← List.map_append, ← List.length_append, e] at ho7
            have hk7 : Below B0 w2 w7 := (HKR.out.trans (hb6.mono hBr)).trans hb7
            exact ⟨k + 1, by omega, by simp, ⟨A7, c7, by rw [← e, List.length_append], ho7⟩, hk7, Nat.le_trans (Nat.le_trans hBr hb6.size) hb7.size⟩
        · have hge : (32 : Int) ≤ (k : Int) := by omega
          have hk32 : k = 32 := by omega
          obtain ⟨M, hM⟩ : ∃ M, M = H ++ ptrB (ps.take k) := ⟨_, rfl⟩
          have hMl : M.length = 75 := by
            rw [hM, List.length_append, ptrB_len, HHL.out, List.length_take]
            omega
          have hMe : M ++ List.replicate ((128 : Int).toNat - M.length) 0 = blk k0 s0 l0 o0 n0 ps := by
            rw [hMl, hM, HH.out, List.take_of_length_le (by omega)]
            rfl
          have hMel : (M ++ List.replicate ((128 : Int).toNat - M.length) (0 : UInt8)).length = 128 := by simp [hMl]
          rw [← hM] at ho5 ⊢
          have hp1 := rpad_any B0 A5 M c5 128 wr hBr (.inr ho5) (by omega) (by omega) (by omega)
          rw [hMe] at hp1
          rw [hMe] at hMel
          have HP := Lib.hid hp1
          have HME := Lib.hid hMel
          have HKR := Lib.hid hkr
          clear ho5 hkr hM hMe hMl hMel hp1 hk32
          go_wp2_with (go_at_call 26; refine HP.out.mono ?_; rintro e w6 ⟨A6, c6, rfl, hm6, hb6⟩)
          go_ret
          obtain ⟨_, _, hv6, _, _, hs6⟩ := hm6.form
          injection hv6 with e1 _ e2
          subst e1; subst e2
          rw [HME.out] at hs6
          have hbw : b1 ≤ B0 := Nat.le_of_lt HB1.out
          have hbB : w.heap.size ≤ B0 := by rw [← HE.out.1]; exact hbw
          exact ⟨A6, c6, congrArg (fun n => Ending.returned (.slice A6 n c6)) HME.out, hs6, (HKW.out.trans (HKR.out.mono hbB)).trans (hb6.mono hbB)⟩
end Go.Proofs.Ytbhpkknimjmpjaa.In
