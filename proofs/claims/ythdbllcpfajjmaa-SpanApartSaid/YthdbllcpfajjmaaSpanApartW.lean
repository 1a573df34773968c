/-
  'SpanApart' walked: what two have together, and what the one has alone, are the one.
-/
import Derived.Test.YthdbllcpfajjmaaSpanA
import Derived.Test.YthdbllcpfajjmaaRely
namespace Go.Proofs.Ythdbllcpfajjmaa.Sp
open Fl Go.RowKit Ga Wd
set_option linter.unusedVariables false
theorem nz_in (f t : Int) (x : Int) : inB (nz (btw f t)) x = (decide (f ≤ x) && decide (x < t)) := by
  unfold nz btw
  by_cases h : f < t
  · have h2 : ¬ (t - f = 0) := by omega
    rw [if_pos h]
    simp only [h2, if_false]
    rw [inB_cons, inB_nil, Bool.or_false]
    unfold inP
    simp only
    rw [show f + (t - f) = t by omega]
  · rw [if_neg h]
    simp only [if_true]
    rw [inB_nil]
    cases h1 : decide (f ≤ x)
    · rfl
    · have := of_decide_eq_true h1
      have h3 : ¬ x < t := by omega
      simp [h3]
theorem nz_st {f t : Int} (h1 : 0 ≤ f) (h4 : t ≤ 33554432) : AllSt (nz (btw f t)) := fun p hp => by
  unfold nz at hp
  split at hp
  · simp at hp
  · rename_i h
    simp at hp
    subst hp
    rcases btw_sz h1 h4 with hs | hs
    · exact hs
    · exact absurd hs.2 h
theorem apart_st {p q : Int × Int} (hp : St p.1 p.2) (hq : St q.1 q.2) : AllSt (withP p q) := by
  unfold St at hp hq
  unfold withP
  exact (nz_st (by omega) (by omega)).append (nz_st (by omega) (by omega))
theorem one_st {p : Int × Int} (hp : St p.1 p.2) : AllSt [p] ∧ ordM (-1) [p] = true := by
  refine ⟨fun t ht => by simp at ht; subst ht; exact hp, (ordM_cons (r := []) hp).2 ⟨by unfold St at hp; omega, rfl⟩⟩
theorem apart_no {p q : Int × Int} (hp : St p.1 p.2) (hq : St q.1 q.2) (h : (meetP p q).2 = 0) : nf (withP p q) = [p] := by
  refine nf_eq (apart_st hp hq) (one_st hp).1 (one_st hp).2 fun x => ?_
  unfold withP
  rw [inB_append, nz_in, nz_in, inB_cons, inB_nil, Bool.or_false, Bool.eq_iff_iff, Bool.or_eq_true, inP_iff]
  simp only [Bool.and_eq_true, decide_eq_true_eq]
  unfold meetP btw at h
  unfold St at hp hq
  split at h
  · simp only at h
    omega
  · omega
theorem apart_yes {p q : Int × Int} (hp : St p.1 p.2) (hq : St q.1 q.2) (h : (meetP p q).2 ≠ 0) : nf (withP p q ++ [meetP p q]) = [p] := by
  have hs : St (meetP p q).1 (meetP p q).2 := by
    unfold St at hp hq
    rcases btw_sz (f := max p.1 q.1) (t := min (p.1 + p.2) (q.1 + q.2)) (by omega) (by omega) with hs | hs
    · exact hs
    · exact absurd hs.2 h
  refine nf_eq ((apart_st hp hq).append (one_st hs).1) (one_st hp).1 (one_st hp).2 fun x => ?_
  unfold withP
  rw [inB_append, inB_append, nz_in, nz_in, inB_cons, inB_cons, inB_nil, Bool.or_false, Bool.or_false, Bool.eq_iff_iff, Bool.or_eq_true, Bool.or_eq_true, inP_iff, inP_iff]
  simp only [Bool.and_eq_true, decide_eq_true_eq]
  unfold meetP btw at h ⊢
  unfold St at hp hq
  split at h
  · rename_i hlt
    rw [if_pos hlt]
    simp only
    omega
  · exact absurd rfl h
theorem meet_comm (p q : Int × Int) : meetP p q = meetP q p := by
  unfold meetP
  rw [Int.max_comm, Int.min_comm]
theorem meet_sz {p q : Int × Int} (hp : St p.1 p.2) (hq : St q.1 q.2) : SZ (meetP p q) := by
  unfold St at hp hq
  exact btw_sz (by omega) (by omega)
theorem with_len (p q : Int × Int) : (withP p q).length ≤ 2 := by
  unfold withP
  rw [List.length_append]
  have := nz_len (btw p.1 (min (p.1 + p.2) q.1))
  have := nz_len (btw (max p.1 (q.1 + q.2)) (p.1 + p.2))
  omega
def OutC (m : Ls) (u : Value) (w : World) : Prop := ∃ A c, u = .slice A m.length c ∧ Sl w w.heap.size 1 A m.length (m.map cv) ∧ m.length ≤ c ∧ c ≤ maxLen
theorem OutC.kept {m : Ls} {u : Value} {w w' : World} (h : OutC m u w) (hk : Kept w w') : OutC m u w' := by
  obtain ⟨A, c, rfl, hs, hc, hm⟩ := h
  exact ⟨A, c, rfl, hs.on (Nat.le_refl _) hk, hc, hm⟩
theorem may_most (w : World) : Calls Try.prog 11 #[.complex .f64 4719772409484279808 4607182418800017408] w fun e w' => e = .returned (.bool false) ∧ w = w' := by
  have h := may_no (a := 33554432) (n := 1) (by unfold Ft; decide) (by unfold Ft; decide) (by decide) w
  rw [show fz 33554432 = 4719772409484279808 by decide +kernel, k1] at h
  exact h
theorem sum_nil (w : World) : Calls Try.prog 20 #[.slice none 0 0] w fun e w' => e = .returned (.int .i64 0) ∧ w = w' := by
  have h := sum_any none [] 0 w (fun p hp => by simp at hp) (Sl.nil _) (by decide)
  exact h
set_option maxRecDepth 100000 in
set_option maxHeartbeats 3200000 in
theorem apart_walk (A : Option Addr) (l : List Int) (c : Nat) (w : World) (hs : Sl w w.heap.size 1 A l.length (l.map (Value.int .i64))) (hc : l.length ≤ c) (hk : l.length ≤ 17592186044416) (hb : ∀ x ∈ l, -9223372036854775808 ≤ x ∧ x ≤ 9223372036854775807) :
    Calls Try.prog 5 #[.slice A l.length c] w fun e w' => e = .returned (.bool true) ∧ Below w.heap.size w w' := by
  obtain ⟨i0, hi, hz0, hz1, hz2⟩ := info_parts infoC
  have LST := Lib.hid (list_any A l c w hs hk hb)
  obtain ⟨m, hm⟩ : ∃ m, m = listM l := ⟨_, rfl⟩
  have hmst := list_st l
  have hml := list_len l
  rw [← hm] at LST hmst hml
  have HMST := Lib.hid hmst
  clear hm hmst hs hb
  go_enter Try.func5, Try.ntmps5
  go_wp2_with fail
  refine LST.out.mono ?_
  rintro e w1 ⟨A1, c1, rfl, hs1, hc1, hm1, hb1, _⟩
  have HB1 := Lib.hid hb1
  have HSM : Hid (∀ w', Below w1.heap.size w1 w' → Sl w' w'.heap.size 1 A1 m.length (m.map cv)) := Lib.hid fun w' hk => hs1.on (Nat.le_refl _) hk
  have HS1 := Lib.hid hs1
  clear hs1 hb1 LST
  go_wp2_with fail
  go_loopw [4] (fun iv wr => ∃ i : Nat, i ≤ m.length ∧ i ≤ 8 ∧ iv = .int .i64 (i : Int) ∧ Below w1.heap.size w1 wr) (fun iv _ => 9 - (intOf iv).toNat)
  case atStart => exact ⟨0, by omega, by omega, rfl, Below.refl _ _⟩
  case round =>
    obtain ⟨i, him, hi8, rfl, hbel⟩ := hrel
    have HBI := Lib.hid hbel
    clear hbel
    by_cases hlt : i < m.length ∧ i < 8
    · obtain ⟨hlt1, hlt2⟩ := hlt
      have hlt1I : (i : Int) < (m.length : Int) := by omega
      have hlt2I : (i : Int) < 8 := by omega
      have hi0' : (0 : Int) ≤ (i : Int) := by omega
      obtain ⟨p, hp⟩ : ∃ p, m[i]? = some p := ⟨_, List.getElem?_eq_getElem hlt1⟩
      have hpst := HMST.out p (List.mem_of_getElem? hp)
      have hA : ∃ b off, A1 = some ⟨b, off, none⟩ ∧ b < w1.heap.size := by
        obtain ⟨b, off, e, hb, _⟩ := HS1.out.at (by omega) (by decide)
        exact ⟨b, off, e, hb⟩
      obtain ⟨b0, off, rfl, hbw⟩ := hA
      have hat : ∀ (j : Nat) (t : Int × Int), m[j]? = some t → w1.cell? ⟨b0, off + j, none⟩ = some (.complex .f64 (fz t.1) (fz t.2)) := fun j t ht => by
        obtain ⟨b', off', e, hb', hcc⟩ := HS1.out.at (by omega) (by decide)
        injection e with e
        injection e with e1 e2
        subst e1; subst e2
        exact hcc j _ (by rw [List.getElem?_map, ht]; rfl)
      have HAT := Lib.hid hat
      have HCPW := Lib.hid (hat i p hp)
      have F1 := Lib.hid (self_fz hpst.a.sm)
      have F2 := Lib.hid (self_fz hpst.n.sm)
      have HPST := Lib.hid hpst
      clear hat hp hpst
      go_wp2_with fail
      go_loopw [5] (fun kv wr => ∃ k : Nat, k ≤ m.length ∧ k ≤ 8 ∧ kv = .int .i64 (k : Int) ∧ Below w1.heap.size w1 wr) (fun kv _ => 9 - (intOf kv).toNat)
      case atStart => exact ⟨0, by omega, by omega, rfl, HBI.out⟩
      case round =>
        obtain ⟨k, hkm, hk8, rfl, hbel⟩ := hrel
        have HBR := Lib.hid hbel
        clear hbel
        by_cases hltk : k < m.length ∧ k < 8
        · obtain ⟨hk1, hk2⟩ := hltk
          have hk1I : (k : Int) < (m.length : Int) := by omega
          have hk2I : (k : Int) < 8 := by omega
          have hk0' : (0 : Int) ≤ (k : Int) := by omega
          obtain ⟨q, hq⟩ : ∃ q, m[k]? = some q := ⟨_, List.getElem?_eq_getElem hk1⟩
          have hqst := HMST.out q (List.mem_of_getElem? hq)
          have hpst := HPST.out
          have HCQW := Lib.hid (HAT.out k q hq)
          have MT := Lib.hid (fun w => meet_any hpst hqst w)
          have MT2 := Lib.hid (fun w => meet_any hqst hpst w)
          rw [meet_comm q p] at MT2
          have hrz := meet_sz hpst hqst
          have WT := Lib.hid (fun w => without_any hpst hqst w)
          obtain ⟨r, hre⟩ : ∃ r, r = meetP p q := ⟨_, rfl⟩
          have HRE := Lib.hid hre
          rw [← hre] at MT MT2 hrz
          obtain ⟨wp, hwp⟩ : ∃ wp, wp = withP p q := ⟨_, rfl⟩
          have hwl := with_len p q
          rw [← hwp] at WT hwl
          have HWL := Lib.hid hwl
          have hrb := hrz.bd
          have E1 := Lib.hid (self_fz (a := r.1) (by unfold Sm; omega))
          have E2 := Lib.hid (self_fz (a := r.2) (by unfold Sm; omega))
          have HCP := Lib.hid ((Below.cell HBR.out (p := ⟨b0, off + i, none⟩) hbw).trans HCPW.out)
          have HCQ := Lib.hid ((Below.cell HBR.out (p := ⟨b0, off + k, none⟩) hbw).trans HCQW.out)
          have hb0 := Nat.lt_of_lt_of_le hbw HBR.out.size
          unfold cv at MT MT2 WT
          have AN : Hid (r.2 = 0 → nf wp = [p]) := Lib.hid (by rw [hre, hwp]; exact apart_no hpst hqst)
          have AY : Hid (r.2 ≠ 0 → nf (wp ++ [r]) = [p]) := Lib.hid (by rw [hre, hwp]; exact apart_yes hpst hqst)
          have AW : Hid (AllSt wp) := Lib.hid (by rw [hwp]; exact apart_st hpst hqst)
          clear hq hre hwl hrb hwp hqst
          clear hpst
          go_wp2_with fail
          refine wp_region_rely (by kernel_rfl) (fun d u w' => match d with
            | 6 => u = (.complex .f64 (fz r.1) (fz r.2) : Value)
            | 32 => u = (.slice (some ⟨b0, off, none⟩) m.length c1 : Value)
            | 33 => u = (.int .i64 (i : Int) : Value)
            | 34 => u = (.pointer (some ⟨b0, off + i, none⟩) : Value)
            | 35 => u = (.complex .f64 (fz p.1) (fz p.2) : Value)
            | 36 => u = (.slice (some ⟨b0, off, none⟩) m.length c1 : Value)
            | 37 => u = (.int .i64 (k : Int) : Value)
            | 38 => u = (.pointer (some ⟨b0, off + k, none⟩) : Value)
            | 39 => u = (.complex .f64 (fz q.1) (fz q.2) : Value)
            | 40 => u = (.complex .f64 (fz r.1) (fz r.2) : Value)
            | _ => True) 99 rfl (by decide +kernel) [6] ?_ ?_
          · refine AllSteps.cons (Step.move _ rfl rfl fun a w' hl => hl.old 3 rfl) ?_
            refine AllSteps.cons (Step.move _ rfl rfl fun a w' hl => hl.old 4 rfl) ?_
            refine AllSteps.cons (Step.plain rfl fun a w' K hl hK => ?_) ?_
            · obtain ⟨_, _, _, h32⟩ := hl.dep 0 32 rfl rfl
              replace h32 : a.eval (.tmp 32) = _ := h32
              obtain ⟨_, _, _, h33⟩ := hl.dep 1 33 rfl rfl
              replace h33 : a.eval (.tmp 33) = _ := h33
              refine wp_val (.pointer (some ⟨b0, off + i, none⟩)) ?_ (hK _ _ (Kept.refl _) rfl)
              clear hl hK
              generalize a.eval = ρ at *
              simp [execOp, go_sem, h32, h33]
              try (intro h; omega)
            refine AllSteps.cons (Step.plain rfl fun a w' K hl hK => ?_) ?_
            · obtain ⟨_, _, _, h34⟩ := hl.dep 2 34 rfl rfl
              replace h34 : a.eval (.tmp 34) = _ := h34
              have hcell := (Below.cell hl.kept (p := ⟨b0, off + i, none⟩) hb0).trans HCP.out
              refine wp_val (.complex .f64 (fz p.1) (fz p.2)) ?_ (hK _ _ (Kept.refl _) rfl)
              clear hl hK
              generalize a.eval = ρ at *
              simp [execOp, go_sem, h34, hcell]
            refine AllSteps.cons (Step.move _ rfl rfl fun a w' hl => hl.old 3 rfl) ?_
            refine AllSteps.cons (Step.move _ rfl rfl fun a w' hl => hl.old 5 rfl) ?_
            refine AllSteps.cons (Step.plain rfl fun a w' K hl hK => ?_) ?_
            · obtain ⟨_, _, _, h36⟩ := hl.dep 4 36 rfl rfl
              replace h36 : a.eval (.tmp 36) = _ := h36
              obtain ⟨_, _, _, h37⟩ := hl.dep 5 37 rfl rfl
              replace h37 : a.eval (.tmp 37) = _ := h37
              refine wp_val (.pointer (some ⟨b0, off + k, none⟩)) ?_ (hK _ _ (Kept.refl _) rfl)
              clear hl hK
              generalize a.eval = ρ at *
              simp [execOp, go_sem, h36, h37]
              try (intro h; omega)
            refine AllSteps.cons (Step.plain rfl fun a w' K hl hK => ?_) ?_
            · obtain ⟨_, _, _, h38⟩ := hl.dep 6 38 rfl rfl
              replace h38 : a.eval (.tmp 38) = _ := h38
              have hcell := (Below.cell hl.kept (p := ⟨b0, off + k, none⟩) hb0).trans HCQ.out
              refine wp_val (.complex .f64 (fz q.1) (fz q.2)) ?_ (hK _ _ (Kept.refl _) rfl)
              clear hl hK
              generalize a.eval = ρ at *
              simp [execOp, go_sem, h38, hcell]
            refine AllSteps.cons (Step.plain rfl fun a w' K hl hK => ?_) ?_
            · obtain ⟨_, _, _, h35⟩ := hl.dep 3 35 rfl rfl
              replace h35 : a.eval (.tmp 35) = _ := h35
              obtain ⟨_, _, _, h39⟩ := hl.dep 7 39 rfl rfl
              replace h39 : a.eval (.tmp 39) = _ := h39
              refine wp_call rfl Try.func18 rfl rfl #[.complex .f64 (fz p.1) (fz p.2), .complex .f64 (fz q.1) (fz q.2)] (by simp [h35, h39]) ?_
              refine (MT.out w').mono ?_
              rintro e w8 ⟨rfl, rfl⟩
              exact ⟨_, rfl, hK _ _ (Kept.refl _) rfl⟩
            refine AllSteps.cons (Step.assign _ rfl rfl fun a w' hl => let ⟨_, _, _, h⟩ := hl.dep 8 40 rfl rfl; h) ?_
            exact AllSteps.nil
          · intro f wa1 hk9 hf
            obtain ⟨_, _, hres⟩ := hf 6 rfl rfl
            replace hres : f 6 = .complex .f64 (fz r.1) (fz r.2) := hres
            simp only [Exit.then, fill, dsts, List.filterMap_cons, List.filterMap_nil, List.foldl_cons, List.foldl_nil, Act.put, hres, List.setIfInBounds_toArray, List.set_cons_succ, List.set_cons_zero]
            clear hf
            have HB1a := Lib.hid (HBR.out.trans (Below.mono hk9 HBR.out.size))
            have HCP1 := Lib.hid ((Below.cell HB1a.out (p := ⟨b0, off + i, none⟩) hbw).trans HCPW.out)
            have HCQ1 := Lib.hid ((Below.cell HB1a.out (p := ⟨b0, off + k, none⟩) hbw).trans HCQW.out)
            replace hb0 := Nat.lt_of_lt_of_le hbw HB1a.out.size
            clear hk9
            go_wp2_with fail
            refine wp_region_rely (by kernel_rfl) (fun d u w' => match d with
              | 41 => u = (.complex .f64 (fz r.1) (fz r.2) : Value)
              | 42 => u = (.slice (some ⟨b0, off, none⟩) m.length c1 : Value)
              | 43 => u = (.int .i64 (k : Int) : Value)
              | 44 => u = (.pointer (some ⟨b0, off + k, none⟩) : Value)
              | 45 => u = (.complex .f64 (fz q.1) (fz q.2) : Value)
              | 46 => u = (.slice (some ⟨b0, off, none⟩) m.length c1 : Value)
              | 47 => u = (.int .i64 (i : Int) : Value)
              | 48 => u = (.pointer (some ⟨b0, off + i, none⟩) : Value)
              | 49 => u = (.complex .f64 (fz p.1) (fz p.2) : Value)
              | 50 => u = (.complex .f64 (fz r.1) (fz r.2) : Value)
              | 51 => u = (.bool false : Value)
              | _ => True) 99 rfl (by decide +kernel) [51] ?_ ?_
            · refine AllSteps.cons (Step.move _ rfl rfl fun a w' hl => hl.old 6 rfl) ?_
              refine AllSteps.cons (Step.move _ rfl rfl fun a w' hl => hl.old 3 rfl) ?_
              refine AllSteps.cons (Step.move _ rfl rfl fun a w' hl => hl.old 5 rfl) ?_
              refine AllSteps.cons (Step.plain rfl fun a w' K hl hK => ?_) ?_
              · obtain ⟨_, _, _, h42⟩ := hl.dep 1 42 rfl rfl
                replace h42 : a.eval (.tmp 42) = _ := h42
                obtain ⟨_, _, _, h43⟩ := hl.dep 2 43 rfl rfl
                replace h43 : a.eval (.tmp 43) = _ := h43
                refine wp_val (.pointer (some ⟨b0, off + k, none⟩)) ?_ (hK _ _ (Kept.refl _) rfl)
                clear hl hK
                generalize a.eval = ρ at *
                simp [execOp, go_sem, h42, h43]
                try (intro h; omega)
              refine AllSteps.cons (Step.plain rfl fun a w' K hl hK => ?_) ?_
              · obtain ⟨_, _, _, h44⟩ := hl.dep 3 44 rfl rfl
                replace h44 : a.eval (.tmp 44) = _ := h44
                have hcell := (Below.cell hl.kept (p := ⟨b0, off + k, none⟩) hb0).trans HCQ1.out
                refine wp_val (.complex .f64 (fz q.1) (fz q.2)) ?_ (hK _ _ (Kept.refl _) rfl)
                clear hl hK
                generalize a.eval = ρ at *
                simp [execOp, go_sem, h44, hcell]
              refine AllSteps.cons (Step.move _ rfl rfl fun a w' hl => hl.old 3 rfl) ?_
              refine AllSteps.cons (Step.move _ rfl rfl fun a w' hl => hl.old 4 rfl) ?_
              refine AllSteps.cons (Step.plain rfl fun a w' K hl hK => ?_) ?_
              · obtain ⟨_, _, _, h46⟩ := hl.dep 5 46 rfl rfl
                replace h46 : a.eval (.tmp 46) = _ := h46
                obtain ⟨_, _, _, h47⟩ := hl.dep 6 47 rfl rfl
                replace h47 : a.eval (.tmp 47) = _ := h47
                refine wp_val (.pointer (some ⟨b0, off + i, none⟩)) ?_ (hK _ _ (Kept.refl _) rfl)
                clear hl hK
                generalize a.eval = ρ at *
                simp [execOp, go_sem, h46, h47]
                try (intro h; omega)
              refine AllSteps.cons (Step.plain rfl fun a w' K hl hK => ?_) ?_
              · obtain ⟨_, _, _, h48⟩ := hl.dep 7 48 rfl rfl
                replace h48 : a.eval (.tmp 48) = _ := h48
                have hcell := (Below.cell hl.kept (p := ⟨b0, off + i, none⟩) hb0).trans HCP1.out
                refine wp_val (.complex .f64 (fz p.1) (fz p.2)) ?_ (hK _ _ (Kept.refl _) rfl)
                clear hl hK
                generalize a.eval = ρ at *
                simp [execOp, go_sem, h48, hcell]
              refine AllSteps.cons (Step.plain rfl fun a w' K hl hK => ?_) ?_
              · obtain ⟨_, _, _, h45⟩ := hl.dep 4 45 rfl rfl
                replace h45 : a.eval (.tmp 45) = _ := h45
                obtain ⟨_, _, _, h49⟩ := hl.dep 8 49 rfl rfl
                replace h49 : a.eval (.tmp 49) = _ := h49
                refine wp_call rfl Try.func18 rfl rfl #[.complex .f64 (fz q.1) (fz q.2), .complex .f64 (fz p.1) (fz p.2)] (by simp [h45, h49]) ?_
                refine (MT2.out w').mono ?_
                rintro e w8 ⟨rfl, rfl⟩
                exact ⟨_, rfl, hK _ _ (Kept.refl _) rfl⟩
              refine AllSteps.cons (Step.plain rfl fun a w' K hl hK => ?_) ?_
              · obtain ⟨_, _, _, h41⟩ := hl.dep 0 41 rfl rfl
                replace h41 : a.eval (.tmp 41) = _ := h41
                obtain ⟨_, _, _, h50⟩ := hl.dep 9 50 rfl rfl
                replace h50 : a.eval (.tmp 50) = _ := h50
                refine wp_val (.bool false) ?_ (hK _ _ (Kept.refl _) rfl)
                clear hl hK
                generalize a.eval = ρ at *
                simp [execOp, go_sem, h41, h50, E1.out, E2.out]
              exact AllSteps.nil
            · intro f wa2 hk9 hf
              obtain ⟨_, _, hres⟩ := hf 51 rfl rfl
              replace hres : f 51 = .bool false := hres
              simp only [Exit.then, fill, dsts, List.filterMap_cons, List.filterMap_nil, List.foldl_cons, List.foldl_nil, Act.put, hres, List.setIfInBounds_toArray, List.set_cons_succ, List.set_cons_zero]
              clear hf
              have HB2a := Lib.hid (HB1a.out.trans (Below.mono hk9 HB1a.out.size))
              have HCP2 := Lib.hid ((Below.cell HB2a.out (p := ⟨b0, off + i, none⟩) hbw).trans HCPW.out)
              have HCQ2 := Lib.hid ((Below.cell HB2a.out (p := ⟨b0, off + k, none⟩) hbw).trans HCQW.out)
              replace hb0 := Nat.lt_of_lt_of_le hbw HB2a.out.size
              clear hk9
              go_wp2_with fail
              refine wp_region_rely (by kernel_rfl) (fun d u w' => match d with
                | 7 => OutC wp u w'
                | 52 => u = (.slice (some ⟨b0, off, none⟩) m.length c1 : Value)
                | 53 => u = (.int .i64 (i : Int) : Value)
                | 54 => u = (.pointer (some ⟨b0, off + i, none⟩) : Value)
                | 55 => u = (.complex .f64 (fz p.1) (fz p.2) : Value)
                | 56 => u = (.slice (some ⟨b0, off, none⟩) m.length c1 : Value)
                | 57 => u = (.int .i64 (k : Int) : Value)
                | 58 => u = (.pointer (some ⟨b0, off + k, none⟩) : Value)
                | 59 => u = (.complex .f64 (fz q.1) (fz q.2) : Value)
                | 60 => OutC wp u w'
                | _ => True) 99 rfl (by decide +kernel) [7] ?_ ?_
              · refine AllSteps.cons (Step.move _ rfl rfl fun a w' hl => hl.old 3 rfl) ?_
                refine AllSteps.cons (Step.move _ rfl rfl fun a w' hl => hl.old 4 rfl) ?_
                refine AllSteps.cons (Step.plain rfl fun a w' K hl hK => ?_) ?_
                · obtain ⟨_, _, _, h52⟩ := hl.dep 0 52 rfl rfl
                  replace h52 : a.eval (.tmp 52) = _ := h52
                  obtain ⟨_, _, _, h53⟩ := hl.dep 1 53 rfl rfl
                  replace h53 : a.eval (.tmp 53) = _ := h53
                  refine wp_val (.pointer (some ⟨b0, off + i, none⟩)) ?_ (hK _ _ (Kept.refl _) rfl)
                  clear hl hK
                  generalize a.eval = ρ at *
                  simp [execOp, go_sem, h52, h53]
                  try (intro h; omega)
                refine AllSteps.cons (Step.plain rfl fun a w' K hl hK => ?_) ?_
                · obtain ⟨_, _, _, h54⟩ := hl.dep 2 54 rfl rfl
                  replace h54 : a.eval (.tmp 54) = _ := h54
                  have hcell := (Below.cell hl.kept (p := ⟨b0, off + i, none⟩) hb0).trans HCP2.out
                  refine wp_val (.complex .f64 (fz p.1) (fz p.2)) ?_ (hK _ _ (Kept.refl _) rfl)
                  clear hl hK
                  generalize a.eval = ρ at *
                  simp [execOp, go_sem, h54, hcell]
                refine AllSteps.cons (Step.move _ rfl rfl fun a w' hl => hl.old 3 rfl) ?_
                refine AllSteps.cons (Step.move _ rfl rfl fun a w' hl => hl.old 5 rfl) ?_
                refine AllSteps.cons (Step.plain rfl fun a w' K hl hK => ?_) ?_
                · obtain ⟨_, _, _, h56⟩ := hl.dep 4 56 rfl rfl
                  replace h56 : a.eval (.tmp 56) = _ := h56
                  obtain ⟨_, _, _, h57⟩ := hl.dep 5 57 rfl rfl
                  replace h57 : a.eval (.tmp 57) = _ := h57
                  refine wp_val (.pointer (some ⟨b0, off + k, none⟩)) ?_ (hK _ _ (Kept.refl _) rfl)
                  clear hl hK
                  generalize a.eval = ρ at *
                  simp [execOp, go_sem, h56, h57]
                  try (intro h; omega)
                refine AllSteps.cons (Step.plain rfl fun a w' K hl hK => ?_) ?_
                · obtain ⟨_, _, _, h58⟩ := hl.dep 6 58 rfl rfl
                  replace h58 : a.eval (.tmp 58) = _ := h58
                  have hcell := (Below.cell hl.kept (p := ⟨b0, off + k, none⟩) hb0).trans HCQ2.out
                  refine wp_val (.complex .f64 (fz q.1) (fz q.2)) ?_ (hK _ _ (Kept.refl _) rfl)
                  clear hl hK
                  generalize a.eval = ρ at *
                  simp [execOp, go_sem, h58, hcell]
                refine AllSteps.cons (Step.plain rfl fun a w' K hl hK => ?_) ?_
                · obtain ⟨_, _, _, h55⟩ := hl.dep 3 55 rfl rfl
                  replace h55 : a.eval (.tmp 55) = _ := h55
                  obtain ⟨_, _, _, h59⟩ := hl.dep 7 59 rfl rfl
                  replace h59 : a.eval (.tmp 59) = _ := h59
                  refine wp_call rfl Try.func19 rfl rfl #[.complex .f64 (fz p.1) (fz p.2), .complex .f64 (fz q.1) (fz q.2)] (by simp [h55, h59]) ?_
                  refine (WT.out w').mono ?_
                  rintro e w8 ⟨A8, c8, rfl, hs8, hc8, hm8, hb8, _⟩
                  exact ⟨_, rfl, hK _ _ hb8 ⟨A8, c8, rfl, hs8, hc8, hm8⟩⟩
                refine AllSteps.cons (Step.assign _ rfl rfl fun a w' hl => let ⟨_, _, hk, h⟩ := hl.dep 8 60 rfl rfl; OutC.kept h hk) ?_
                exact AllSteps.nil
              · intro f w11 hk11 hf
                obtain ⟨w10, hk10, hoc⟩ := hf 7 rfl rfl
                obtain ⟨A8, c8, hres, hs8, hc8, hm8⟩ := OutC.kept (show OutC wp (f 7) w10 from hoc) hk10
                simp only [Exit.then, fill, dsts, List.filterMap_cons, List.filterMap_nil, List.foldl_cons, List.foldl_nil, Act.put, hres, List.setIfInBounds_toArray, List.set_cons_succ, List.set_cons_zero]
                have HS8 := Lib.hid hs8
                have HB8 := Lib.hid (HB2a.out.trans (Below.mono hk11 HB2a.out.size))
                clear hf hoc hk10 hk11 hs8 hres
                rcases hrz with hz | hz
                · have n2 := neq_of hz
                  have hnf : nf (wp ++ [r]) = [p] := AY.out (by unfold St at hz; omega)
                  have NR := Lib.hid (fun A c w hs => norm_any A (wp ++ [r]) c w (AllSt.append AW.out (fun t ht => by simp at ht; subst ht; exact hz)) hs (by have := HWL.out; simp; omega))
                  rw [hnf] at NR
                  have CSW := Lib.hid (fun A c w hs => cs_any A wp c w hs (by have := HWL.out; omega))
                  have hwl := HWL.out
                  clear hnf
                  go_wp2_with fail
                  refine (CSW.out _ _ _ HS8.out).mono ?_
                  rintro e wc ⟨Ac, cc, rfl, hsc, hcc, hmc, hbc, hmine⟩
                  have hszp := hbc.size
                  go_wp2_with (at_builtin; refine wpList_append_mine rfl (.tmp 64) (.tmp 66) _ _ rfl w11.heap.size 22 i0 (.complex .f64 0 0) 1 16 hz1 hz2 rfl (by decide) _ _ _ rfl (Mine.alloc hmine _) _ 1 [cv r] rfl (Gives.elem Try.underlying32 hi hz0 hz1 _ rfl) (by simp only [maxLen]; omega) (by omega) (by simp; omega) ?_; intro Aap cap wa hmap hgap hba hatap hownap)
                  obtain ⟨Ax, cx, hvx, hcx, hmx, hsx⟩ := hmap.form
                  injection hvx with hvx1 hvx2 hvx3
                  subst hvx1; subst hvx3
                  have hapl : (wp ++ [r]).length = wp.length + 1 := by simp
                  have hsx2 : Sl wa wa.heap.size 1 Aap (wp ++ [r]).length ((wp ++ [r]).map cv) := by
                    rw [hapl, List.map_append]
                    exact hsx
                  have HAP := Lib.hid hsx2
                  have HBA := Lib.hid (HB8.out.trans (Below.mono ((hbc.alloc hszp _).trans hba) HB8.out.size))
                  rw [← hapl]
                  clear hsx hsx2 hmap hgap hatap hownap hvx2 hmine hbc hba hapl hsc hszp
                  go_wp2_with fail
                  refine (NR.out _ _ _ HAP.out).mono ?_
                  rintro e wn ⟨A9, c9, rfl, hs9, hc9, hm9, hbn⟩
                  rw [show ([p] : Ls).length = 1 from rfl]
                  have HBn := Lib.hid (HBA.out.trans (Below.mono hbn HBA.out.size))
                  have HSM9 := Lib.hid (HSM.out wn HBn.out)
                  obtain ⟨b1, f1, rfl, hb1, hcc1⟩ := hs9.at (by simp) (by decide)
                  have HCN : Hid (wn.cell? ⟨b1, f1, none⟩ = some (.complex .f64 (fz p.1) (fz p.2))) := Lib.hid (by have := hcc1 0 (cv p) rfl; rwa [Nat.add_zero] at this)
                  have HCP9 := Lib.hid ((Below.cell HBn.out (p := ⟨b0, off + i, none⟩) hbw).trans HCPW.out)
                  replace hb0 := Nat.lt_of_lt_of_le hbw HBn.out.size
                  clear hs9 hcc1 hbn
                  go_wp2_with fail
                  refine wp_region_rely (by kernel_rfl) (fun d u w' => match d with
                    | 73 => u = (.bool true : Value)
                    | 74 => u = (.bool false : Value)
                    | 75 => u = (.bool false : Value)
                    | 76 => u = (.slice (some ⟨b1, f1, none⟩) 1 c9 : Value)
                    | 77 => u = (.int .i64 1 : Value)
                    | 78 => u = (.bool false : Value)
                    | 79 => u = (.bool false : Value)
                    | 80 => u = (.bool false : Value)
                    | 81 => u = (.slice (some ⟨b1, f1, none⟩) 1 c9 : Value)
                    | 82 => u = (.pointer (some ⟨b1, f1, none⟩) : Value)
                    | 83 => u = (.complex .f64 (fz p.1) (fz p.2) : Value)
                    | 84 => u = (.slice (some ⟨b0, off, none⟩) m.length c1 : Value)
                    | 85 => u = (.int .i64 (i : Int) : Value)
                    | 86 => u = (.pointer (some ⟨b0, off + i, none⟩) : Value)
                    | 87 => u = (.complex .f64 (fz p.1) (fz p.2) : Value)
                    | 88 => u = (.bool false : Value)
                    | 89 => u = (.bool false : Value)
                    | _ => True) 99 rfl (by decide +kernel) [89] ?_ ?_
                  · refine AllSteps.cons (Step.move _ rfl rfl fun a w' hl => hl.old 9 rfl) ?_
                    refine AllSteps.cons (Step.plain rfl fun a w' K hl hK => ?_) ?_
                    · obtain ⟨_, _, _, h73⟩ := hl.dep 0 73 rfl rfl
                      replace h73 : a.eval (.tmp 73) = _ := h73
                      refine wp_val (.bool false) ?_ (hK _ _ (Kept.refl _) rfl)
                      clear hl hK
                      generalize a.eval = ρ at *
                      simp [execOp, go_sem, h73]
                    refine AllSteps.cons (Step.move _ rfl rfl fun a w' hl => let ⟨_, _, _, h⟩ := hl.dep 1 74 rfl rfl; h) ?_
                    refine AllSteps.cons (Step.yes 2 false 75 rfl rfl rfl (fun _ _ h => h) fun a w' K hl hK => ?_) ?_
                    · have h8 : a.eval (.tmp 8) = (.slice (some ⟨b1, f1, none⟩) 1 c9 : Value) := hl.old 8 rfl
                      exact wp_val (a.eval (.tmp 8)) rfl (hK _ _ (Kept.refl _) h8)
                    refine AllSteps.cons (Step.yes 2 false 75 rfl rfl rfl (fun _ _ h => h) fun a w' K hl hK => ?_) ?_
                    · obtain ⟨_, _, _, h76⟩ := hl.dep 3 76 rfl rfl
                      replace h76 : a.eval (.tmp 76) = _ := h76
                      refine wp_val (.int .i64 1) ?_ (hK _ _ (Kept.refl _) rfl)
                      clear hl hK
                      generalize a.eval = ρ at *
                      simp [go_sem, h76]
                    refine AllSteps.cons (Step.yes 2 false 75 rfl rfl rfl (fun _ _ h => h) fun a w' K hl hK => ?_) ?_
                    · obtain ⟨_, _, _, h77⟩ := hl.dep 4 77 rfl rfl
                      replace h77 : a.eval (.tmp 77) = _ := h77
                      have hconst : ∀ x, a.eval (.const x) = x := fun _ => rfl
                      refine wp_val (.bool false) ?_ (hK _ _ (Kept.refl _) rfl)
                      clear hl hK
                      generalize a.eval = ρ at *
                      simp [execOp, go_sem, h77, hconst]
                    refine AllSteps.cons (Step.plain rfl fun a w' K hl hK => ?_) ?_
                    · obtain ⟨_, _, _, h75⟩ := hl.dep 2 75 rfl rfl
                      replace h75 : a.eval (.tmp 75) = _ := h75
                      obtain ⟨_, _, _, h78⟩ := hl.dep 5 78 rfl rfl
                      replace h78 : a.eval (.tmp 78) = _ := h78
                      exact wp_pick rfl false h75 (hK _ _ (Kept.refl _) h78)
                    refine AllSteps.cons (Step.move _ rfl rfl fun a w' hl => let ⟨_, _, _, h⟩ := hl.dep 6 79 rfl rfl; h) ?_
                    refine AllSteps.cons (Step.yes 7 false 80 rfl rfl rfl (fun _ _ h => h) fun a w' K hl hK => ?_) ?_
                    · have h8 : a.eval (.tmp 8) = (.slice (some ⟨b1, f1, none⟩) 1 c9 : Value) := hl.old 8 rfl
                      exact wp_val (a.eval (.tmp 8)) rfl (hK _ _ (Kept.refl _) h8)
                    refine AllSteps.cons (Step.yes 7 false 80 rfl rfl rfl (fun _ _ h => h) fun a w' K hl hK => ?_) ?_
                    · obtain ⟨_, _, _, h81⟩ := hl.dep 8 81 rfl rfl
                      replace h81 : a.eval (.tmp 81) = _ := h81
                      have hconst : ∀ x, a.eval (.const x) = x := fun _ => rfl
                      refine wp_val (.pointer (some ⟨b1, f1, none⟩)) ?_ (hK _ _ (Kept.refl _) rfl)
                      clear hl hK
                      generalize a.eval = ρ at *
                      simp [execOp, go_sem, h81, hconst]
                    refine AllSteps.cons (Step.yes 7 false 80 rfl rfl rfl (fun _ _ h => h) fun a w' K hl hK => ?_) ?_
                    · obtain ⟨_, _, _, h82⟩ := hl.dep 9 82 rfl rfl
                      replace h82 : a.eval (.tmp 82) = _ := h82
                      have hcell := (Below.cell hl.kept (p := ⟨b1, f1, none⟩) hb1).trans HCN.out
                      refine wp_val (.complex .f64 (fz p.1) (fz p.2)) ?_ (hK _ _ (Kept.refl _) rfl)
                      clear hl hK
                      generalize a.eval = ρ at *
                      simp [execOp, go_sem, h82, hcell]
                    refine AllSteps.cons (Step.yes 7 false 80 rfl rfl rfl (fun _ _ h => h) fun a w' K hl hK => ?_) ?_
                    · have h3 : a.eval (.tmp 3) = (.slice (some ⟨b0, off, none⟩) m.length c1 : Value) := hl.old 3 rfl
                      exact wp_val (a.eval (.tmp 3)) rfl (hK _ _ (Kept.refl _) h3)
                    refine AllSteps.cons (Step.yes 7 false 80 rfl rfl rfl (fun _ _ h => h) fun a w' K hl hK => ?_) ?_
                    · have h4 : a.eval (.tmp 4) = (.int .i64 (i : Int) : Value) := hl.old 4 rfl
                      exact wp_val (a.eval (.tmp 4)) rfl (hK _ _ (Kept.refl _) h4)
                    refine AllSteps.cons (Step.yes 7 false 80 rfl rfl rfl (fun _ _ h => h) fun a w' K hl hK => ?_) ?_
                    · obtain ⟨_, _, _, h84⟩ := hl.dep 11 84 rfl rfl
                      replace h84 : a.eval (.tmp 84) = _ := h84
                      obtain ⟨_, _, _, h85⟩ := hl.dep 12 85 rfl rfl
                      replace h85 : a.eval (.tmp 85) = _ := h85
                      refine wp_val (.pointer (some ⟨b0, off + i, none⟩)) ?_ (hK _ _ (Kept.refl _) rfl)
                      clear hl hK
                      generalize a.eval = ρ at *
                      simp [execOp, go_sem, h84, h85]
                      try (intro h; omega)
                    refine AllSteps.cons (Step.yes 7 false 80 rfl rfl rfl (fun _ _ h => h) fun a w' K hl hK => ?_) ?_
                    · obtain ⟨_, _, _, h86⟩ := hl.dep 13 86 rfl rfl
                      replace h86 : a.eval (.tmp 86) = _ := h86
                      have hcell := (Below.cell hl.kept (p := ⟨b0, off + i, none⟩) hb0).trans HCP9.out
                      refine wp_val (.complex .f64 (fz p.1) (fz p.2)) ?_ (hK _ _ (Kept.refl _) rfl)
                      clear hl hK
                      generalize a.eval = ρ at *
                      simp [execOp, go_sem, h86, hcell]
                    refine AllSteps.cons (Step.yes 7 false 80 rfl rfl rfl (fun _ _ h => h) fun a w' K hl hK => ?_) ?_
                    · obtain ⟨_, _, _, h83⟩ := hl.dep 10 83 rfl rfl
                      replace h83 : a.eval (.tmp 83) = _ := h83
                      obtain ⟨_, _, _, h87⟩ := hl.dep 14 87 rfl rfl
                      replace h87 : a.eval (.tmp 87) = _ := h87
                      refine wp_val (.bool false) ?_ (hK _ _ (Kept.refl _) rfl)
                      clear hl hK
                      generalize a.eval = ρ at *
                      simp [execOp, go_sem, h83, h87, F1.out, F2.out]
                    refine AllSteps.cons (Step.plain rfl fun a w' K hl hK => ?_) ?_
                    · obtain ⟨_, _, _, h80⟩ := hl.dep 7 80 rfl rfl
                      replace h80 : a.eval (.tmp 80) = _ := h80
                      obtain ⟨_, _, _, h88⟩ := hl.dep 15 88 rfl rfl
                      replace h88 : a.eval (.tmp 88) = _ := h88
                      exact wp_pick rfl false h80 (hK _ _ (Kept.refl _) h88)
                    exact AllSteps.nil
                  · intro f wz hk9 hf
                    obtain ⟨_, _, hres⟩ := hf 89 rfl rfl
                    replace hres : f 89 = .bool false := hres
                    simp only [Exit.then, fill, dsts, List.filterMap_cons, List.filterMap_nil, List.foldl_cons, List.foldl_nil, Act.put, hres, List.setIfInBounds_toArray, List.set_cons_succ, List.set_cons_zero]
                    clear hf
                    have HBz := Lib.hid (HBn.out.trans (Below.mono hk9 HBn.out.size))
                    clear hk9
                    go_wp2_with fail
                    go_roundw
                    case rel => exact ⟨k + 1, by omega, by omega, by go_num, HBz.out⟩
                    case measure => simp [intOf]; omega
                · have HZ : Hid (r.1 = 0 ∧ r.2 = 0) := Lib.hid hz
                  have n1 : (FloatKind.f64.format.order (fz r.1) 0 == some .eq) = true := by rw [hz.1, fz0]; decide +kernel
                  have n2 : (FloatKind.f64.format.order (fz r.2) 0 == some .eq) = true := by rw [hz.2, fz0]; decide +kernel
                  have NR := Lib.hid (fun A c w hs => norm_any A wp c w AW.out hs (by have := HWL.out; omega))
                  rw [AN.out hz.2] at NR
                  have HAP := HS8
                  have HBA := HB8
                  clear hz
                  go_wp2_with fail
                  refine (NR.out _ _ _ HAP.out).mono ?_
                  rintro e wn ⟨A9, c9, rfl, hs9, hc9, hm9, hbn⟩
                  rw [show ([p] : Ls).length = 1 from rfl]
                  have HBn := Lib.hid (HBA.out.trans (Below.mono hbn HBA.out.size))
                  have HSM9 := Lib.hid (HSM.out wn HBn.out)
                  obtain ⟨b1, f1, rfl, hb1, hcc1⟩ := hs9.at (by simp) (by decide)
                  have HCN : Hid (wn.cell? ⟨b1, f1, none⟩ = some (.complex .f64 (fz p.1) (fz p.2))) := Lib.hid (by have := hcc1 0 (cv p) rfl; rwa [Nat.add_zero] at this)
                  have HCP9 := Lib.hid ((Below.cell HBn.out (p := ⟨b0, off + i, none⟩) hbw).trans HCPW.out)
                  replace hb0 := Nat.lt_of_lt_of_le hbw HBn.out.size
                  clear hs9 hcc1 hbn
                  go_wp2_with fail
                  refine wp_region_rely (by kernel_rfl) (fun d u w' => match d with
                    | 73 => u = (.bool true : Value)
                    | 74 => u = (.bool false : Value)
                    | 75 => u = (.bool false : Value)
                    | 76 => u = (.slice (some ⟨b1, f1, none⟩) 1 c9 : Value)
                    | 77 => u = (.int .i64 1 : Value)
                    | 78 => u = (.bool false : Value)
                    | 79 => u = (.bool false : Value)
                    | 80 => u = (.bool false : Value)
                    | 81 => u = (.slice (some ⟨b1, f1, none⟩) 1 c9 : Value)
                    | 82 => u = (.pointer (some ⟨b1, f1, none⟩) : Value)
                    | 83 => u = (.complex .f64 (fz p.1) (fz p.2) : Value)
                    | 84 => u = (.slice (some ⟨b0, off, none⟩) m.length c1 : Value)
                    | 85 => u = (.int .i64 (i : Int) : Value)
                    | 86 => u = (.pointer (some ⟨b0, off + i, none⟩) : Value)
                    | 87 => u = (.complex .f64 (fz p.1) (fz p.2) : Value)
                    | 88 => u = (.bool false : Value)
                    | 89 => u = (.bool false : Value)
                    | _ => True) 99 rfl (by decide +kernel) [89] ?_ ?_
                  · refine AllSteps.cons (Step.move _ rfl rfl fun a w' hl => hl.old 9 rfl) ?_
                    refine AllSteps.cons (Step.plain rfl fun a w' K hl hK => ?_) ?_
                    · obtain ⟨_, _, _, h73⟩ := hl.dep 0 73 rfl rfl
                      replace h73 : a.eval (.tmp 73) = _ := h73
                      refine wp_val (.bool false) ?_ (hK _ _ (Kept.refl _) rfl)
                      clear hl hK
                      generalize a.eval = ρ at *
                      simp [execOp, go_sem, h73]
                    refine AllSteps.cons (Step.move _ rfl rfl fun a w' hl => let ⟨_, _, _, h⟩ := hl.dep 1 74 rfl rfl; h) ?_
                    refine AllSteps.cons (Step.yes 2 false 75 rfl rfl rfl (fun _ _ h => h) fun a w' K hl hK => ?_) ?_
                    · have h8 : a.eval (.tmp 8) = (.slice (some ⟨b1, f1, none⟩) 1 c9 : Value) := hl.old 8 rfl
                      exact wp_val (a.eval (.tmp 8)) rfl (hK _ _ (Kept.refl _) h8)
                    refine AllSteps.cons (Step.yes 2 false 75 rfl rfl rfl (fun _ _ h => h) fun a w' K hl hK => ?_) ?_
                    · obtain ⟨_, _, _, h76⟩ := hl.dep 3 76 rfl rfl
                      replace h76 : a.eval (.tmp 76) = _ := h76
                      refine wp_val (.int .i64 1) ?_ (hK _ _ (Kept.refl _) rfl)
                      clear hl hK
                      generalize a.eval = ρ at *
                      simp [go_sem, h76]
                    refine AllSteps.cons (Step.yes 2 false 75 rfl rfl rfl (fun _ _ h => h) fun a w' K hl hK => ?_) ?_
                    · obtain ⟨_, _, _, h77⟩ := hl.dep 4 77 rfl rfl
                      replace h77 : a.eval (.tmp 77) = _ := h77
                      have hconst : ∀ x, a.eval (.const x) = x := fun _ => rfl
                      refine wp_val (.bool false) ?_ (hK _ _ (Kept.refl _) rfl)
                      clear hl hK
                      generalize a.eval = ρ at *
                      simp [execOp, go_sem, h77, hconst]
                    refine AllSteps.cons (Step.plain rfl fun a w' K hl hK => ?_) ?_
                    · obtain ⟨_, _, _, h75⟩ := hl.dep 2 75 rfl rfl
                      replace h75 : a.eval (.tmp 75) = _ := h75
                      obtain ⟨_, _, _, h78⟩ := hl.dep 5 78 rfl rfl
                      replace h78 : a.eval (.tmp 78) = _ := h78
                      exact wp_pick rfl false h75 (hK _ _ (Kept.refl _) h78)
                    refine AllSteps.cons (Step.move _ rfl rfl fun a w' hl => let ⟨_, _, _, h⟩ := hl.dep 6 79 rfl rfl; h) ?_
                    refine AllSteps.cons (Step.yes 7 false 80 rfl rfl rfl (fun _ _ h => h) fun a w' K hl hK => ?_) ?_
                    · have h8 : a.eval (.tmp 8) = (.slice (some ⟨b1, f1, none⟩) 1 c9 : Value) := hl.old 8 rfl
                      exact wp_val (a.eval (.tmp 8)) rfl (hK _ _ (Kept.refl _) h8)
                    refine AllSteps.cons (Step.yes 7 false 80 rfl rfl rfl (fun _ _ h => h) fun a w' K hl hK => ?_) ?_
                    · obtain ⟨_, _, _, h81⟩ := hl.dep 8 81 rfl rfl
                      replace h81 : a.eval (.tmp 81) = _ := h81
                      have hconst : ∀ x, a.eval (.const x) = x := fun _ => rfl
                      refine wp_val (.pointer (some ⟨b1, f1, none⟩)) ?_ (hK _ _ (Kept.refl _) rfl)
                      clear hl hK
                      generalize a.eval = ρ at *
                      simp [execOp, go_sem, h81, hconst]
                    refine AllSteps.cons (Step.yes 7 false 80 rfl rfl rfl (fun _ _ h => h) fun a w' K hl hK => ?_) ?_
                    · obtain ⟨_, _, _, h82⟩ := hl.dep 9 82 rfl rfl
                      replace h82 : a.eval (.tmp 82) = _ := h82
                      have hcell := (Below.cell hl.kept (p := ⟨b1, f1, none⟩) hb1).trans HCN.out
                      refine wp_val (.complex .f64 (fz p.1) (fz p.2)) ?_ (hK _ _ (Kept.refl _) rfl)
                      clear hl hK
                      generalize a.eval = ρ at *
                      simp [execOp, go_sem, h82, hcell]
                    refine AllSteps.cons (Step.yes 7 false 80 rfl rfl rfl (fun _ _ h => h) fun a w' K hl hK => ?_) ?_
                    · have h3 : a.eval (.tmp 3) = (.slice (some ⟨b0, off, none⟩) m.length c1 : Value) := hl.old 3 rfl
                      exact wp_val (a.eval (.tmp 3)) rfl (hK _ _ (Kept.refl _) h3)
                    refine AllSteps.cons (Step.yes 7 false 80 rfl rfl rfl (fun _ _ h => h) fun a w' K hl hK => ?_) ?_
                    · have h4 : a.eval (.tmp 4) = (.int .i64 (i : Int) : Value) := hl.old 4 rfl
                      exact wp_val (a.eval (.tmp 4)) rfl (hK _ _ (Kept.refl _) h4)
                    refine AllSteps.cons (Step.yes 7 false 80 rfl rfl rfl (fun _ _ h => h) fun a w' K hl hK => ?_) ?_
                    · obtain ⟨_, _, _, h84⟩ := hl.dep 11 84 rfl rfl
                      replace h84 : a.eval (.tmp 84) = _ := h84
                      obtain ⟨_, _, _, h85⟩ := hl.dep 12 85 rfl rfl
                      replace h85 : a.eval (.tmp 85) = _ := h85
                      refine wp_val (.pointer (some ⟨b0, off + i, none⟩)) ?_ (hK _ _ (Kept.refl _) rfl)
                      clear hl hK
                      generalize a.eval = ρ at *
                      simp [execOp, go_sem, h84, h85]
                      try (intro h; omega)
                    refine AllSteps.cons (Step.yes 7 false 80 rfl rfl rfl (fun _ _ h => h) fun a w' K hl hK => ?_) ?_
                    · obtain ⟨_, _, _, h86⟩ := hl.dep 13 86 rfl rfl
                      replace h86 : a.eval (.tmp 86) = _ := h86
                      have hcell := (Below.cell hl.kept (p := ⟨b0, off + i, none⟩) hb0).trans HCP9.out
                      refine wp_val (.complex .f64 (fz p.1) (fz p.2)) ?_ (hK _ _ (Kept.refl _) rfl)
                      clear hl hK
                      generalize a.eval = ρ at *
                      simp [execOp, go_sem, h86, hcell]
                    refine AllSteps.cons (Step.yes 7 false 80 rfl rfl rfl (fun _ _ h => h) fun a w' K hl hK => ?_) ?_
                    · obtain ⟨_, _, _, h83⟩ := hl.dep 10 83 rfl rfl
                      replace h83 : a.eval (.tmp 83) = _ := h83
                      obtain ⟨_, _, _, h87⟩ := hl.dep 14 87 rfl rfl
                      replace h87 : a.eval (.tmp 87) = _ := h87
                      refine wp_val (.bool false) ?_ (hK _ _ (Kept.refl _) rfl)
                      clear hl hK
                      generalize a.eval = ρ at *
                      simp [execOp, go_sem, h83, h87, F1.out, F2.out]
                    refine AllSteps.cons (Step.plain rfl fun a w' K hl hK => ?_) ?_
                    · obtain ⟨_, _, _, h80⟩ := hl.dep 7 80 rfl rfl
                      replace h80 : a.eval (.tmp 80) = _ := h80
                      obtain ⟨_, _, _, h88⟩ := hl.dep 15 88 rfl rfl
                      replace h88 : a.eval (.tmp 88) = _ := h88
                      exact wp_pick rfl false h80 (hK _ _ (Kept.refl _) h88)
                    exact AllSteps.nil
                  · intro f wz hk9 hf
                    obtain ⟨_, _, hres⟩ := hf 89 rfl rfl
                    replace hres : f 89 = .bool false := hres
                    simp only [Exit.then, fill, dsts, List.filterMap_cons, List.filterMap_nil, List.foldl_cons, List.foldl_nil, Act.put, hres, List.setIfInBounds_toArray, List.set_cons_succ, List.set_cons_zero]
                    clear hf
                    have HBz := Lib.hid (HBn.out.trans (Below.mono hk9 HBn.out.size))
                    clear hk9
                    go_wp2_with fail
                    go_roundw
                    case rel => exact ⟨k + 1, by omega, by omega, by go_num, HBz.out⟩
                    case measure => simp [intOf]; omega
        · rcases (show m.length ≤ k ∨ (k < m.length ∧ 8 ≤ k) by omega) with hx | ⟨hx, hx2⟩
          · have hxI : (m.length : Int) ≤ (k : Int) := by omega
            clear hltk
            go_wp2_with fail
            go_roundw
            case rel => exact ⟨i + 1, by omega, by omega, by go_num, HBR.out⟩
            case measure => simp [intOf]; omega
          · have hxI : (k : Int) < (m.length : Int) := by omega
            have hx2I : (8 : Int) ≤ (k : Int) := by omega
            clear hltk
            go_wp2_with fail
            go_roundw
            case rel => exact ⟨i + 1, by omega, by omega, by go_num, HBR.out⟩
            case measure => simp [intOf]; omega
    · rcases (show m.length ≤ i ∨ (i < m.length ∧ 8 ≤ i) by omega) with hx | ⟨hx, hx2⟩
      · have hxI : (m.length : Int) ≤ (i : Int) := by omega
        clear hlt
        go_wp2_with fail
        refine (sum_nil _).mono ?_
        rintro e w' ⟨rfl, rfl⟩
        go_wp2_with fail
        refine (may_most _).mono ?_
        rintro e w' ⟨rfl, rfl⟩
        go_wp2_with fail
        refine (awake_any _).mono ?_
        rintro e w9 ⟨rfl, hb9⟩
        have HB9 := Lib.hid ((HB1.out.trans (Below.mono HBI.out HB1.out.size)).trans (Below.mono hb9 (Nat.le_trans HB1.out.size HBI.out.size)))
        go_wp2_with fail
        go_ret
        exact ⟨rfl, HB9.out⟩
      · have hxI : (i : Int) < (m.length : Int) := by omega
        have hx2I : (8 : Int) ≤ (i : Int) := by omega
        clear hlt
        go_wp2_with fail
        refine (sum_nil _).mono ?_
        rintro e w' ⟨rfl, rfl⟩
        go_wp2_with fail
        refine (may_most _).mono ?_
        rintro e w' ⟨rfl, rfl⟩
        go_wp2_with fail
        refine (awake_any _).mono ?_
        rintro e w9 ⟨rfl, hb9⟩
        have HB9 := Lib.hid ((HB1.out.trans (Below.mono HBI.out HB1.out.size)).trans (Below.mono hb9 (Nat.le_trans HB1.out.size HBI.out.size)))
        go_wp2_with fail
        go_ret
        exact ⟨rfl, HB9.out⟩
end Go.Proofs.Ythdbllcpfajjmaa.Sp
