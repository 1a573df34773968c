/-
  gauss: Gcd.
-/
import Derived.Test.YtpacmghekfkidaaGauss5
import Derived.Test.YtpacmghekfkidaaJumps
import Derived.WalkMore
import Derived.Outline
namespace Go.Proofs.Ytpacmghekfkidaa.Ga
open Fl Go.RowKit Jm
set_option linter.unusedVariables false

def partsV : Value → Int × Int
  | .complex .f64 x y => ((floatToIntVal .f64 x .i64).getD 0, (floatToIntVal .f64 y .i64).getD 0)
  | _ => (0, 0)
theorem partsV_cz {a b : Int} (ha : Sm a) (hb : Sm b) : partsV (cz a b) = (a, b) := by
  show ((floatToIntVal .f64 (fz a) .i64).getD 0, (floatToIntVal .f64 (fz b) .i64).getD 0) = (a, b)
  rw [conv_fz ha, conv_fz hb]
  rfl
def nrmV (v : Value) : Nat := (norm (partsV v).1 (partsV v).2).toNat
def trnV (v : Value) : Nat := turns (partsV v).1 (partsV v).2
theorem neq_zero {a b : Int} (ha : Sm a) (hb : Sm b) (h : ¬ (a = 0 ∧ b = 0)) : (FloatKind.f64.format.order (fz a) 0 == some .eq && FloatKind.f64.format.order (fz b) 0 == some .eq) = false := by
  rw [← fz0, eql_fz ha (by unfold Sm; decide), eql_fz hb (by unfold Sm; decide)]
  by_cases h1 : a = 0
  · have : ¬ b = 0 := fun e => h ⟨h1, e⟩
    simp [this]
  · simp [h1]
theorem leq_zero {a : Int} (ha : Sm a) : (FloatKind.f64.format.order (fz a) 0 == some .lt || FloatKind.f64.format.order (fz a) 0 == some .eq) = decide (a ≤ 0) := by
  rw [← fz0, order_fz ha (by unfold Sm; decide), cmp_lt, cmp_eq, ← Bool.decide_or]
  congr 1
  apply propext
  omega
theorem leq_zero_yes {a : Int} (ha : Sm a) (h : ¬ 0 < a) : (FloatKind.f64.format.order (fz a) 0 == some .lt || FloatKind.f64.format.order (fz a) 0 == some .eq) = true := by
  rw [leq_zero ha]; simp; omega
theorem leq_zero_no {a : Int} (ha : Sm a) (h : 0 < a) : (FloatKind.f64.format.order (fz a) 0 == some .lt || FloatKind.f64.format.order (fz a) 0 == some .eq) = false := by
  rw [leq_zero ha]; simp; omega
theorem lss_zero {a : Int} (ha : Sm a) : (FloatKind.f64.format.order (fz a) 0 == some .lt) = decide (a < 0) := by
  rw [← fz0, order_fz ha (by unfold Sm; decide), cmp_lt]
theorem lss_zero_yes {a : Int} (ha : Sm a) (h : a < 0) : (FloatKind.f64.format.order (fz a) 0 == some .lt) = true := by rw [lss_zero ha]; simp; omega
theorem lss_zero_no {a : Int} (ha : Sm a) (h : ¬ a < 0) : (FloatKind.f64.format.order (fz a) 0 == some .lt) = false := by rw [lss_zero ha]; simp; omega
theorem trn_lt {a b : Int} (ha : Ft a) (hb : Ft b) (h : turns (-b) a < turns a b) : trnV (.complex .f64 (fz (-b)) (fz a)) < trnV (.complex .f64 (fz a) (fz b)) := by
  have h1 := partsV_cz hb.neg.sm ha.sm
  have h2 := partsV_cz ha.sm hb.sm
  unfold cz at h1 h2
  unfold trnV
  rw [h1, h2]
  exact h
theorem nrm_lt {a b c d : Int} (hc : Ft c) (hd : Ft d) (hn : 0 < norm c d) : nrmV (.complex .f64 (fz (rx a b c d)) (fz (ry a b c d))) < nrmV (.complex .f64 (fz c) (fz d)) := by
  have h3 := r_fit (a := a) (b := b) hc hd hn
  have h1 := partsV_cz h3.1.sm h3.2.sm
  have h2 := partsV_cz hc.sm hd.sm
  unfold cz at h1 h2
  unfold nrmV
  rw [h1, h2]
  have h4 := rest_norm a b c d hn
  have h5 := norm_nn (rx a b c d) (ry a b c d)
  show (norm (rx a b c d) (ry a b c d)).toNat < (norm c d).toNat
  omega
theorem turn_one {a b : Int} (ha : Ft a) (hb : Ft b) (w : World) : Calls Try.prog 17 #[cz a b, .int .i64 1] w fun e w' => e = .returned (.tuple #[cz (-b) a, .bool true]) ∧ w = w' := turn_any ha hb 1 w
/-- at the first label -/
def AtNext (G : Int × Int) (W : World) (x : Act) (w' : World) : Prop := W = w' ∧ ∃ (a b c d : Int) (u2 u3 u4 u5 u6 u7 u8 u9 u10 u11 u12 u13 u14 u15 u16 u17 u18 u19 u20 u21 u22 u23 u24 u25 u26 u27 u28 u29 u30 u31 u32 u33 u34 u35 u36 u37 u38 u39 u40 u41 u42 u43 u44 u45 u46 u47 : Value), Ft a ∧ Ft b ∧ Ft c ∧ Ft d ∧ gcdE a b c d = G ∧ x = { tmps := #[cz a b, cz c d, u2, u3, u4, u5, u6, u7, u8, u9, u10, u11, u12, u13, u14, u15, u16, u17, u18, u19, u20, u21, u22, u23, u24, u25, u26, u27, u28, u29, u30, u31, u32, u33, u34, u35, u36, u37, u38, u39, u40, u41, u42, u43, u44, u45, u46, u47], defers := [] }
/-- at the second label -/
def AtTurn (G : Int × Int) (W : World) (x : Act) (w' : World) : Prop := W = w' ∧ ∃ (a b : Int) (u1 u2 u3 u4 u5 u6 u7 u8 u9 u10 u11 u12 u13 u14 u15 u16 u17 u18 u19 u20 u21 u22 u23 u24 u25 u26 u27 u28 u29 u30 u31 u32 u33 u34 u35 u36 u37 u38 u39 u40 u41 u42 u43 u44 u45 u46 u47 : Value), Ft a ∧ Ft b ∧ quad a b = quad G.1 G.2 ∧ x = { tmps := #[cz a b, u1, u2, u3, u4, u5, u6, u7, u8, u9, u10, u11, u12, u13, u14, u15, u16, u17, u18, u19, u20, u21, u22, u23, u24, u25, u26, u27, u28, u29, u30, u31, u32, u33, u34, u35, u36, u37, u38, u39, u40, u41, u42, u43, u44, u45, u46, u47], defers := [] }

set_option maxRecDepth 100000 in
set_option maxHeartbeats 1000000 in
theorem gcd_any {a b c d : Int} (ha : Ft a) (hb : Ft b) (hc : Ft c) (hd : Ft d) (w : World) :
    Calls Try.prog 13 #[cz a b, cz c d] w fun e w' => e = .returned (.tuple #[cz (quad (gcdE a b c d).1 (gcdE a b c d).2).1 (quad (gcdE a b c d).1 (gcdE a b c d).2).2, .bool true]) ∧ w = w' := by
  have H1 := Lib.hid (fun w => is_yes ha hb w)
  have H2 := Lib.hid (fun w => is_yes hc hd w)
  obtain ⟨G, hG⟩ : ∃ G, gcdE a b c d = G := ⟨_, rfl⟩
  have HG := Lib.hid hG
  rw [hG]
  clear hG
  go_enter Try.func13, Try.ntmps13
  go_wp2_with fail
  refine wp_scope_jumps2 0 1 (AtNext G w) (AtTurn G w) (fun x _ => nrmV (x.tmps.getD 1 undef)) (fun x _ => trnV (x.tmps.getD 0 undef)) rfl rfl ?_ ?_ ?_
  · have hg : gcdE a b c d = G := HG.out
    clear HG
    go_wp2_with fail
    refine (H1.out _).mono ?_
    rintro e w' ⟨rfl, rfl⟩
    go_wp2_with fail
    refine (H2.out _).mono ?_
    rintro e w' ⟨rfl, rfl⟩
    go_wp2_with fail
    go_step3
    clear H1 H2
    by_cases hz1 : c = 0 ∧ d = 0
    · obtain ⟨rfl, rfl⟩ := hz1
      have HQ : Hid (quad a b = quad G.1 G.2) := by
        show quad a b = quad G.1 G.2
        rw [← hg, gcd_stop]
      replace HA := Lib.hid ha
      replace HB := Lib.hid hb
      clear hg ha hb hc hd
      rw [cz00]
      go_wp2_with fail
      go_step3
      by_cases hz : a = 0 ∧ b = 0
      · obtain ⟨rfl, rfl⟩ := hz
        rw [cz00]
        go_wp2
        simp only [jump2]
        go_ret2
        rw [← HQ.out, quad_stop (.inl ⟨rfl, rfl⟩), cz00]
        exact ⟨rfl, rfl⟩
      · have hnz := neq_zero (HA.out.sm) (HB.out.sm) hz
        by_cases hp : 0 < a
        · have h1 := leq_zero_no HA.out.sm hp
          by_cases hb : b < 0
          · have h2 := lss_zero_yes HB.out.sm hb
            have HT := Lib.hid (fun w => turn_one HA.out HB.out w)
            have HS := Lib.hid (quad_step hz (by omega))
            have HM := Lib.hid (trn_lt HA.out HB.out HS.out.2)
            clear hz
            unfold cz at HT ⊢
            clear hp
            go_wp2_with fail
            refine (HT.out _).mono ?_
            rintro e w' ⟨rfl, rfl⟩
            go_wp2_with fail
            go_step3
            exact .inr ⟨rfl, ⟨rfl, -b, a, _, _, _, _, _, _, _, _, _, _, _, _, _, _, _, _, _, _, _, _, _, _, _, _, _, _, _, _, _, _, _, _, _, _, _, _, _, _, _, _, _, _, _, _, _, _, _, HB.out.neg, HA.out, HS.out.1.symm.trans HQ.out, rfl⟩⟩
          · have h2 := lss_zero_no HB.out.sm hb
            have HE : Hid (quad a b = (a, b)) := quad_stop (.inr ⟨hp, by omega⟩)
            clear hz hb hp
            unfold cz
            go_wp2
            simp only [jump2]
            go_ret2
            rw [← HQ.out, HE.out]
            exact ⟨rfl, rfl⟩
        · have h1 := leq_zero_yes HA.out.sm hp
          have HT := Lib.hid (fun w => turn_one HA.out HB.out w)
          have HS := Lib.hid (quad_step hz (by omega))
          have HM := Lib.hid (trn_lt HA.out HB.out HS.out.2)
          clear hz
          unfold cz at HT ⊢
          clear hp
          go_wp2_with fail
          refine (HT.out _).mono ?_
          rintro e w' ⟨rfl, rfl⟩
          go_wp2_with fail
          go_step3
          exact .inr ⟨rfl, ⟨rfl, -b, a, _, _, _, _, _, _, _, _, _, _, _, _, _, _, _, _, _, _, _, _, _, _, _, _, _, _, _, _, _, _, _, _, _, _, _, _, _, _, _, _, _, _, _, _, _, _, _, HB.out.neg, HA.out, HS.out.1.symm.trans HQ.out, rfl⟩⟩
    · have hn := norm_pos hz1
      have hnz1 := neq_zero hc.sm hd.sm hz1
      have HD := Lib.hid (fun w => div_yes ha hb hc hd hn w)
      have HN := Lib.hid (nrm_lt (a := a) (b := b) hc hd hn)
      have HR := Lib.hid (r_fit (a := a) (b := b) hc hd hn)
      have HGG := Lib.hid (gcd_step (a := a) (b := b) hz1)
      have HQ := Lib.hid hg
      have HC := Lib.hid hc
      have HDD := Lib.hid hd
      clear hz1 hn hg ha hb hc hd
      unfold cz at HD ⊢
      generalize rx a b c d = r1 at *
      generalize ry a b c d = r2 at *
      go_wp2_with fail
      refine (HD.out _).mono ?_
      rintro e w' ⟨rfl, rfl⟩
      go_wp2_with fail
      go_step3
      exact .inl ⟨rfl, ⟨rfl, c, d, r1, r2, _, _, _, _, _, _, _, _, _, _, _, _, _, _, _, _, _, _, _, _, _, _, _, _, _, _, _, _, _, _, _, _, _, _, _, _, _, _, _, _, _, _, _, _, _, _, HC.out, HDD.out, HR.out.1, HR.out.2, HGG.out.symm.trans HQ.out, rfl⟩⟩
  · clear HG H1 H2 ha hb hc hd
    clear a b c d
    rintro x w' ⟨rfl, a, b, c, d, u2, u3, u4, u5, u6, u7, u8, u9, u10, u11, u12, u13, u14, u15, u16, u17, u18, u19, u20, u21, u22, u23, u24, u25, u26, u27, u28, u29, u30, u31, u32, u33, u34, u35, u36, u37, u38, u39, u40, u41, u42, u43, u44, u45, u46, u47, ha, hb, hc, hd, hg, rfl⟩
    by_cases hz1 : c = 0 ∧ d = 0
    · obtain ⟨rfl, rfl⟩ := hz1
      have HQ : Hid (quad a b = quad G.1 G.2) := by
        show quad a b = quad G.1 G.2
        rw [← hg, gcd_stop]
      replace HA := Lib.hid ha
      replace HB := Lib.hid hb
      clear hg ha hb hc hd
      rw [cz00]
      go_wp2_with fail
      go_step3
      by_cases hz : a = 0 ∧ b = 0
      · obtain ⟨rfl, rfl⟩ := hz
        rw [cz00]
        go_wp2
        simp only [jump2]
        go_ret2
        rw [← HQ.out, quad_stop (.inl ⟨rfl, rfl⟩), cz00]
        exact ⟨rfl, rfl⟩
      · have hnz := neq_zero (HA.out.sm) (HB.out.sm) hz
        by_cases hp : 0 < a
        · have h1 := leq_zero_no HA.out.sm hp
          by_cases hb : b < 0
          · have h2 := lss_zero_yes HB.out.sm hb
            have HT := Lib.hid (fun w => turn_one HA.out HB.out w)
            have HS := Lib.hid (quad_step hz (by omega))
            have HM := Lib.hid (trn_lt HA.out HB.out HS.out.2)
            clear hz
            unfold cz at HT ⊢
            clear hp
            go_wp2_with fail
            refine (HT.out _).mono ?_
            rintro e w' ⟨rfl, rfl⟩
            go_wp2_with fail
            go_step3
            exact .inr ⟨rfl, ⟨rfl, -b, a, _, _, _, _, _, _, _, _, _, _, _, _, _, _, _, _, _, _, _, _, _, _, _, _, _, _, _, _, _, _, _, _, _, _, _, _, _, _, _, _, _, _, _, _, _, _, _, HB.out.neg, HA.out, HS.out.1.symm.trans HQ.out, rfl⟩⟩
          · have h2 := lss_zero_no HB.out.sm hb
            have HE : Hid (quad a b = (a, b)) := quad_stop (.inr ⟨hp, by omega⟩)
            clear hz hb hp
            unfold cz
            go_wp2
            simp only [jump2]
            go_ret2
            rw [← HQ.out, HE.out]
            exact ⟨rfl, rfl⟩
        · have h1 := leq_zero_yes HA.out.sm hp
          have HT := Lib.hid (fun w => turn_one HA.out HB.out w)
          have HS := Lib.hid (quad_step hz (by omega))
          have HM := Lib.hid (trn_lt HA.out HB.out HS.out.2)
          clear hz
          unfold cz at HT ⊢
          clear hp
          go_wp2_with fail
          refine (HT.out _).mono ?_
          rintro e w' ⟨rfl, rfl⟩
          go_wp2_with fail
          go_step3
          exact .inr ⟨rfl, ⟨rfl, -b, a, _, _, _, _, _, _, _, _, _, _, _, _, _, _, _, _, _, _, _, _, _, _, _, _, _, _, _, _, _, _, _, _, _, _, _, _, _, _, _, _, _, _, _, _, _, _, _, HB.out.neg, HA.out, HS.out.1.symm.trans HQ.out, rfl⟩⟩
    · have hn := norm_pos hz1
      have hnz1 := neq_zero hc.sm hd.sm hz1
      have HD := Lib.hid (fun w => div_yes ha hb hc hd hn w)
      have HN := Lib.hid (nrm_lt (a := a) (b := b) hc hd hn)
      have HR := Lib.hid (r_fit (a := a) (b := b) hc hd hn)
      have HGG := Lib.hid (gcd_step (a := a) (b := b) hz1)
      have HQ := Lib.hid hg
      have HC := Lib.hid hc
      have HDD := Lib.hid hd
      clear hz1 hn hg ha hb hc hd
      unfold cz at HD ⊢
      generalize rx a b c d = r1 at *
      generalize ry a b c d = r2 at *
      go_wp2_with fail
      refine (HD.out _).mono ?_
      rintro e w' ⟨rfl, rfl⟩
      go_wp2_with fail
      go_step3
      exact .inl ⟨rfl, ⟨⟨rfl, c, d, r1, r2, _, _, _, _, _, _, _, _, _, _, _, _, _, _, _, _, _, _, _, _, _, _, _, _, _, _, _, _, _, _, _, _, _, _, _, _, _, _, _, _, _, _, _, _, _, _, HC.out, HDD.out, HR.out.1, HR.out.2, HGG.out.symm.trans HQ.out, rfl⟩, HN.out⟩⟩
  · rintro x w' ⟨rfl, a, b, u1, u2, u3, u4, u5, u6, u7, u8, u9, u10, u11, u12, u13, u14, u15, u16, u17, u18, u19, u20, u21, u22, u23, u24, u25, u26, u27, u28, u29, u30, u31, u32, u33, u34, u35, u36, u37, u38, u39, u40, u41, u42, u43, u44, u45, u46, u47, HA, HB, hq, rfl⟩
    replace HA := Lib.hid HA
    replace HB := Lib.hid HB
    have HQ := Lib.hid hq
    clear hq HG H1 H2
    by_cases hz : a = 0 ∧ b = 0
    · obtain ⟨rfl, rfl⟩ := hz
      rw [cz00]
      go_wp2
      simp only [jump2]
      go_ret2
      rw [← HQ.out, quad_stop (.inl ⟨rfl, rfl⟩), cz00]
      exact ⟨rfl, rfl⟩
    · have hnz := neq_zero (HA.out.sm) (HB.out.sm) hz
      by_cases hp : 0 < a
      · have h1 := leq_zero_no HA.out.sm hp
        by_cases hb : b < 0
        · have h2 := lss_zero_yes HB.out.sm hb
          have HT := Lib.hid (fun w => turn_one HA.out HB.out w)
          have HS := Lib.hid (quad_step hz (by omega))
          have HM := Lib.hid (trn_lt HA.out HB.out HS.out.2)
          clear hz
          unfold cz at HT ⊢
          clear hp
          go_wp2_with fail
          refine (HT.out _).mono ?_
          rintro e w' ⟨rfl, rfl⟩
          go_wp2_with fail
          go_step3
          exact .inl ⟨rfl, ⟨rfl, -b, a, _, _, _, _, _, _, _, _, _, _, _, _, _, _, _, _, _, _, _, _, _, _, _, _, _, _, _, _, _, _, _, _, _, _, _, _, _, _, _, _, _, _, _, _, _, _, _, HB.out.neg, HA.out, HS.out.1.symm.trans HQ.out, rfl⟩, HM.out⟩
        · have h2 := lss_zero_no HB.out.sm hb
          have HE : Hid (quad a b = (a, b)) := quad_stop (.inr ⟨hp, by omega⟩)
          clear hz hb hp
          unfold cz
          go_wp2
          simp only [jump2]
          go_ret2
          rw [← HQ.out, HE.out]
          exact ⟨rfl, rfl⟩
      · have h1 := leq_zero_yes HA.out.sm hp
        have HT := Lib.hid (fun w => turn_one HA.out HB.out w)
        have HS := Lib.hid (quad_step hz (by omega))
        have HM := Lib.hid (trn_lt HA.out HB.out HS.out.2)
        clear hz
        unfold cz at HT ⊢
        clear hp
        go_wp2_with fail
        refine (HT.out _).mono ?_
        rintro e w' ⟨rfl, rfl⟩
        go_wp2_with fail
        go_step3
        exact .inl ⟨rfl, ⟨rfl, -b, a, _, _, _, _, _, _, _, _, _, _, _, _, _, _, _, _, _, _, _, _, _, _, _, _, _, _, _, _, _, _, _, _, _, _, _, _, _, _, _, _, _, _, _, _, _, _, _, HB.out.neg, HA.out, HS.out.1.symm.trans HQ.out, rfl⟩, HM.out⟩
end Go.Proofs.Ytpacmghekfkidaa.Ga
