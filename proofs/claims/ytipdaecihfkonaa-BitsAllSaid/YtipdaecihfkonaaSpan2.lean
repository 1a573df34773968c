/-
  span: between, Cut.
-/
import Derived.Test.YtipdaecihfkonaaSpan1
namespace Go.Proofs.Ytipdaecihfkonaa.Sp
open Fl Go.RowKit Ga Wd
set_option linter.unusedVariables false

theorem infoC : (Try.prog.info? 46).map (fun i => (i.zero, i.size, i.bytes)) = some (some (.complex .f64 0 0), 1, 16) := by kernel_rfl
theorem between_yes {f t : Int} (h : St f (t - f)) (w : World) : Calls Try.prog 34 #[.int .i64 f, .int .i64 t] w fun e w' => e = .returned (.complex .f64 (fz f) (fz (t - f))) ∧ w = w' := by
  have HM := Lib.hid (fun w => smake_yes h w)
  have h1 : 0 ≤ f := h.1
  have h2 : f ≤ 33554432 := by unfold St at h; omega
  have h3 : 0 ≤ t := by unfold St at h; omega
  have h4 : t ≤ 33554432 := by unfold St at h; omega
  clear h
  generalize fz f = p at *
  generalize fz (t - f) = q at *
  go_enter Try.func34, Try.ntmps34
  go_wp2_with fail
  refine (HM.out _).mono ?_
  rintro e w' ⟨rfl, rfl⟩
  go_wp2_with fail
  go_ret
  exact ⟨rfl, rfl⟩
def atM (n : Int) (p : Int × Int) : Int := min (p.1 + p.2) (p.1 + n)
def fstM (n : Int) (p : Int × Int) : List (Int × Int) := if p.1 < atM n p then [(p.1, atM n p - p.1)] else []
def sndM (n : Int) (p : Int × Int) : List (Int × Int) := if atM n p < p.1 + p.2 then [(atM n p, p.1 + p.2 - atM n p)] else []
def cutM : Int → List (Int × Int) → List (Int × Int) × List (Int × Int)
  | _, [] => ([], [])
  | n, p :: r => (fstM n p ++ (cutM (n - (atM n p - p.1)) r).1, sndM n p ++ (cutM (n - (atM n p - p.1)) r).2)
theorem cut_drop {l : List (Int × Int)} {k : Nat} {p : Int × Int} (h : l[k]? = some p) (n : Int) :
    cutM n (l.drop k) = (fstM n p ++ (cutM (n - (atM n p - p.1)) (l.drop (k + 1))).1, sndM n p ++ (cutM (n - (atM n p - p.1)) (l.drop (k + 1))).2) := by
  have hlt : k < l.length := (List.getElem?_eq_some_iff.1 h).1
  have he : l[k] = p := (List.getElem?_eq_some_iff.1 h).2
  rw [List.drop_eq_getElem_cons hlt, he]
  rfl
theorem ord_st : ∀ (l : List (Int × Int)) (last : Int), (∀ p ∈ l, SZ p) → ordM last l = true → -1 ≤ last → ∀ p ∈ l, St p.1 p.2
  | [], _, _, _, _ => by simp
  | p :: r, last, hs, ho, hl => by
    unfold ordM at ho
    split at ho
    · cases ho
    · rename_i hn
      intro q hq
      rcases List.mem_cons.1 hq with rfl | hq
      · rcases hs q (by simp) with h | h
        · exact h
        · omega
      · have hp := (hs p (by simp)).bd
        exact ord_st r _ (fun q hq => hs q (by simp [hq])) ho (by omega) q hq
theorem fst_len (n : Int) (p : Int × Int) : (fstM n p).length ≤ 1 := by unfold fstM; split <;> simp
theorem snd_len (n : Int) (p : Int × Int) : (sndM n p).length ≤ 1 := by unfold sndM; split <;> simp
theorem cut_len : ∀ (l : List (Int × Int)) (n : Int), (cutM n l).1.length ≤ l.length ∧ (cutM n l).2.length ≤ l.length
  | [], _ => by simp [cutM]
  | p :: r, n => by
    have ih := cut_len r (n - (atM n p - p.1))
    have h1 := fst_len n p
    have h2 := snd_len n p
    simp only [cutM, List.length_append, List.length_cons]
    omega
/-- two lists and a truth -/
def CutR (w : World) (a b : List (Int × Int)) (e : Ending) (w' : World) : Prop :=
  ∃ A1 c1 A2 c2, e = .returned (.tuple #[.slice A1 a.length c1, .slice A2 b.length c2, .bool true]) ∧ Sl w' w'.heap.size 1 A1 a.length (a.map cv) ∧ a.length ≤ c1 ∧ Sl w' w'.heap.size 1 A2 b.length (b.map cv) ∧ b.length ≤ c2 ∧ Below w.heap.size w w'
section
variable (A : Option Addr) (l : List (Int × Int)) (c : Nat) (n : Int) (w : World)
theorem cut_no (hl : ∀ p ∈ l, SZ p) (hs : Sl w w.heap.size 1 A l.length (l.map cv)) (hk : l.length ≤ 140737488355328) (h : ¬ (orderedB l = true ∧ 0 ≤ n ∧ n ≤ sumM l)) :
    Calls Try.prog 28 #[.slice A l.length c, .int .i64 n] w fun e w' => e = .returned (.tuple #[.slice none 0 0, .slice none 0 0, .bool false]) ∧ w = w' := by
  have HO := Lib.hid (fun w hs => ordered_any A l c w hl hs hk)
  have HM := Lib.hid (fun w hs => sum_any A l c w hl hs hk)
  have HS := Lib.hid hs
  clear hs hl
  cases hob : orderedB l
  · rw [hob] at HO
    clear h hob HM
    go_enter Try.func28, Try.ntmps28
    go_wp2_with fail
    refine (HO.out _ HS.out).mono ?_
    rintro e w' ⟨rfl, rfl⟩
    go_wp2_with fail
    go_ret3
    exact ⟨rfl, rfl⟩
  · rw [hob] at HO
    by_cases h0 : 0 ≤ n
    · have h1 : sumM l < n := by
        by_cases h1 : n ≤ sumM l
        · exact absurd ⟨hob, h0, h1⟩ h
        · omega
      generalize sumM l = s at *
      clear h hob
      go_enter Try.func28, Try.ntmps28
      go_wp2_with fail
      refine (HO.out _ HS.out).mono ?_
      rintro e w' ⟨rfl, rfl⟩
      go_wp2_with fail
      refine (HM.out _ HS.out).mono ?_
      rintro e w' ⟨rfl, rfl⟩
      go_wp2_with fail
      go_ret3
      exact ⟨rfl, rfl⟩
    · have h1 : n < 0 := by omega
      clear h hob HM h0
      go_enter Try.func28, Try.ntmps28
      go_wp2_with fail
      refine (HO.out _ HS.out).mono ?_
      rintro e w' ⟨rfl, rfl⟩
      go_wp2_with fail
      go_ret3
      exact ⟨rfl, rfl⟩
def Apart (u v : Value) : Prop := u.ownBlock = none ∨ u.ownBlock ≠ v.ownBlock
theorem own_lt {w : World} {base n s : Nat} {e : TypeId} {v : Value} {xs : List Value} (h : w.ownsRow base e s v n xs) : ∀ g, v.ownBlock = some g → base ≤ g ∧ g < w.heap.size := by
  rcases h.2 with ⟨rfl, _⟩ | ⟨g, cap, cur, rfl, hb, hg, _⟩
  · intro g h; cases h
  · intro g' h
    have : g = g' := by simpa [Value.ownBlock] using h
    subst this
    exact ⟨hb, (Array.getElem?_eq_some_iff.1 hg).1⟩
theorem Apart.sym {u v : Value} (h : Apart u v) : Apart v u := by
  rcases h with h | h
  · cases hv : v.ownBlock with
    | none => exact .inl hv
    | some g => exact .inr (by rw [hv, h]; simp)
  · exact .inr fun e => h e.symm
theorem Apart.step {w : World} {base n s : Nat} {e : TypeId} {u u' v : Value} {xs : List Value} (h : Apart u v) (hv : w.ownsRow base e s v n xs) (hat : u'.ownBlock = u.ownBlock ∨ u'.ownBlock = some w.heap.size) : Apart u' v := by
  rcases hat with ha | ha
  · rcases h with h | h
    · exact .inl (ha.trans h)
    · exact .inr (by rw [ha]; exact h)
  · refine .inr fun e => ?_
    have := (own_lt hv _ (e.symm.trans ha)).2
    omega
set_option maxRecDepth 20000 in
set_option maxHeartbeats 1600000 in
theorem cut_yes (hl : ∀ p ∈ l, SZ p) (hs : Sl w w.heap.size 1 A l.length (l.map cv)) (hk : l.length ≤ 1000000) (ho : orderedB l = true) (h0 : 0 ≤ n) (h1 : n ≤ sumM l) :
    Calls Try.prog 28 #[.slice A l.length c, .int .i64 n] w (CutR w (cutM n l).1 (cutM n l).2) := by
  obtain ⟨i0, hi0, hz0, hz1, hz2⟩ := info_parts infoC
  have HO := Lib.hid (fun w hs => ordered_any A l c w hl hs (by omega))
  rw [ho] at HO
  have HM := Lib.hid (fun w hs => sum_any A l c w hl hs (by omega))
  have hsm : sumM l ≤ 33554432 := by
    have := ord_bd l (-1) hl ho (by omega)
    unfold sumM
    rw [if_pos ho]
    exact this.2.2
  have HST := Lib.hid (ord_st l (-1) hl ho (by omega))
  have HS := Lib.hid hs
  have hCL := (cut_len l n)
  obtain ⟨FF, hFF⟩ : ∃ FF, FF = (cutM n l).1 := ⟨_, rfl⟩
  obtain ⟨RR, hRR⟩ : ∃ RR, RR = (cutM n l).2 := ⟨_, rfl⟩
  rw [← hFF, ← hRR] at hCL ⊢
  have HFF := Lib.hid hFF
  have HRR := Lib.hid hRR
  have hn3 : n ≤ 33554432 := by omega
  generalize sumM l = sm at *
  clear hs hl ho hFF hRR
  go_enter Try.func28, Try.ntmps28
  go_wp2_with fail
  refine (HO.out _ HS.out).mono ?_
  rintro e w' ⟨rfl, rfl⟩
  go_wp2_with fail
  refine (HM.out _ HS.out).mono ?_
  rintro e w' ⟨rfl, rfl⟩
  go_wp2_with fail
  go_loopw [29, 1, 7, 8] (fun i m u v wr => ∃ (k : Nat) (nk : Int) (F R : List (Int × Int)), k ≤ l.length ∧ i = .int .i64 (k : Int) ∧ m = .int .i64 nk ∧ 0 ≤ nk ∧ nk ≤ 33554432 ∧
    wr.ownsRow w.heap.size 46 1 u F.length (F.map cv) ∧ wr.ownsRow w.heap.size 46 1 v R.length (R.map cv) ∧ Apart u v ∧ FF = F ++ (cutM nk (l.drop k)).1 ∧ RR = R ++ (cutM nk (l.drop k)).2 ∧ Below w.heap.size w wr) (fun i _ _ _ _ => l.length - (intOf i).toNat)
  case atStart => exact ⟨0, n, [], [], by omega, rfl, rfl, h0, hn3, World.ownsRow_nil _ _ _ _, World.ownsRow_nil _ _ _ _, .inl rfl, HFF.out, HRR.out, Below.refl _ _⟩
  case round =>
    obtain ⟨k, nk, F, R, hk2, rfl, rfl, hn0, hn1, hof, hor, hap, hf, hr, hbel⟩ := hrel
    have HOF := Lib.hid hof
    have HOR := Lib.hid hor
    have HAP := Lib.hid hap
    have HF := Lib.hid hf
    have HR := Lib.hid hr
    have HB := Lib.hid hbel
    have hB := hbel.size
    have hfl : F.length ≤ FF.length := by rw [hf]; simp
    have hrl : R.length ≤ RR.length := by rw [hr]; simp
    clear hof hor hap hf hr hbel
    by_cases hlt : k < l.length
    · have hltI : (k : Int) < (l.length : Int) := by omega
      have hk0 : (0 : Int) ≤ (k : Int) := by omega
      obtain ⟨p, hp⟩ : ∃ p, l[k]? = some p := ⟨_, List.getElem?_eq_getElem hlt⟩
      obtain ⟨b, off, rfl, hbb, hcell⟩ := (HS.out.on (Nat.le_refl _) HB.out).at (by omega) (by decide)
      have hck := hcell k (cv p) (by rw [List.getElem?_map, hp]; rfl)
      have hst := HST.out p (List.mem_of_getElem? hp)
      have HE := Lib.hid (fun w => ends_yes hst w)
      have HC := Lib.hid (cut_drop hp nk)
      obtain ⟨pa, pn⟩ := p
      unfold cv at hck
      simp only at hck HE HC hst
      obtain ⟨d1, d2, d3⟩ := hst
      have hpn : 0 ≤ pn := by omega
      have hpa : pa ≤ 33554432 := by omega
      have hpnm : pn ≤ 33554432 := by omega
      have hat : atM nk (pa, pn) = min (pa + pn) (pa + nk) := rfl
      clear hp hbb hcell
      generalize fz pa = fa at *
      obtain ⟨fn, hfn⟩ : ∃ fn, fn = fz pn := ⟨_, rfl⟩
      rw [← hfn] at hck HE
      clear hfn
      by_cases hc : nk < pn
      · have hat2 : atM nk (pa, pn) = pa + nk := by omega
        have hm : pa + nk < pa + pn := by omega
        have hm2 : ¬ (pa + pn ≤ pa + nk) := by omega
        have hne : nk - (pa + nk - pa) = 0 := by omega
        have hsn : sndM nk (pa, pn) = [(pa + nk, pn - nk)] := by unfold sndM; rw [hat2, if_pos (by simpa using hm)]; simp only [List.cons.injEq, Prod.mk.injEq, and_true, true_and]; omega
        by_cases hp0 : 0 < nk
        · have hfs : fstM nk (pa, pn) = [(pa, nk)] := by unfold fstM; rw [hat2, if_pos (by simp; omega)]; simp only [List.cons.injEq, Prod.mk.injEq, and_true, true_and]; omega
          have B1 := Lib.hid (fun w => between_yes (f := pa) (t := pa + nk) (by unfold St; omega) w)
          have B2 := Lib.hid (fun w => between_yes (f := pa + nk) (t := pa + pn) (by unfold St; omega) w)
          have HNE := Lib.hid hne
          have hC := HC.out
          rw [hat2, hne, hfs, hsn] at hC
          have hF2 := HF.out
          have hR2 := HR.out
          rw [hC] at hF2 hR2
          have e1 : pa + nk - pa = nk := by omega
          have e2 : pa + pn - (pa + nk) = pn - nk := by omega
          rw [e1] at B1
          rw [e2] at B2
          have HF2 := Lib.hid hF2
          have HR2 := Lib.hid hR2
          have hfl2 : F.length + 1 ≤ FF.length := by rw [hF2]; simp
          have hrl2 : R.length + 1 ≤ RR.length := by rw [hR2]; simp
          have hD0 : 0 ≤ nk - (pa + nk - pa) := by omega
          obtain ⟨xa, hxa⟩ : ∃ x, x = fz pa := ⟨_, rfl⟩
          obtain ⟨xb, hxb⟩ : ∃ x, x = fz nk := ⟨_, rfl⟩
          obtain ⟨xc, hxc⟩ : ∃ x, x = fz (pa + nk) := ⟨_, rfl⟩
          obtain ⟨xd, hxd⟩ : ∃ x, x = fz (pn - nk) := ⟨_, rfl⟩
          rw [← hxa, ← hxb] at B1
          rw [← hxc, ← hxd] at B2
          have HXA := Lib.hid hxa
          have HXB := Lib.hid hxb
          have HXC := Lib.hid hxc
          have HXD := Lib.hid hxd
          clear hF2 hR2 hC hsn hfs hat hat2 e1 e2 hne HC HF HR hxa hxb hxc hxd
          go_wp2_with fail
          refine (HE.out _).mono ?_
          rintro e w' ⟨rfl, rfl⟩
          go_wp2_with fail
          refine (B1.out _).mono ?_
          rintro e w' ⟨rfl, rfl⟩
          go_wp2_with (at_builtin; refine wpList_append_mine rfl (.tmp 51) (.tmp 55) _ _ rfl w.heap.size 46 i0 (.complex .f64 0 0) 1 16 hz1 hz2 rfl (by decide) _ _ _ rfl (Mine.alloc (.inr HOF.out) _) _ 1 [.complex .f64 xa xb] rfl (Gives.elem Try.underlying41 hi0 hz0 hz1 _ rfl) (by simp only [maxLen]; omega) (by omega) (by simp; omega) ?_; intro A2 c2 w2 hm2 hg2 hb2 hat2 hown2)
          have ho2 := hown2 (.inl (by decide))
          have hv2 := (HOR.out.alloc _).kept hg2 HAP.out.sym
          have ha2 := HAP.out.step (HOR.out.alloc _) hat2
          have HO2 := Lib.hid ho2
          have HV2 := Lib.hid hv2
          have HA2 := Lib.hid ha2
          have HB2 := Lib.hid hb2
          have hB2 : w.heap.size ≤ w2.heap.size := by have := hb2.size; simp at this; omega
          clear ho2 hv2 ha2 hm2 hg2 hb2 hat2 hown2
          go_wp2_with fail
          refine (B2.out _).mono ?_
          rintro e w' ⟨rfl, rfl⟩
          go_wp2_with (at_builtin; refine wpList_append_mine rfl (.tmp 60) (.tmp 64) _ _ rfl w.heap.size 46 i0 (.complex .f64 0 0) 1 16 hz1 hz2 rfl (by decide) _ _ _ rfl (Mine.alloc (.inr HV2.out) _) _ 1 [.complex .f64 xc xd] rfl (Gives.elem Try.underlying41 hi0 hz0 hz1 _ rfl) (by simp only [maxLen]; omega) (by omega) (by simp; omega) ?_; intro A3 c3 w3 hm3 hg3 hb3 hat3 hown3)
          have ho3 := hown3 (.inl (by decide))
          have hv3 := (HO2.out.alloc _).kept hg3 HA2.out
          have ha3 := (HA2.out.sym.step (HO2.out.alloc _) hat3).sym
          have HO3 := Lib.hid ho3
          have HV3 := Lib.hid hv3
          have HA3 := Lib.hid ha3
          have HB3 := Lib.hid hb3
          clear ho3 hv3 ha3 hm3 hg3 hb3 hat3 hown3
          go_wp2_with fail
          go_roundw
          case measure => simp [intOf]; omega
          case rel => exact ⟨k + 1, _, F ++ [(pa, nk)], R ++ [(pa + nk, pn - nk)], by omega, by go_num, rfl, by omega, by omega, by simpa [cv, HXA.out, HXB.out] using HV3.out, by simpa [cv, HXC.out, HXD.out] using HO3.out, HA3.out, by rw [HNE.out, HF2.out]; simp, by rw [HNE.out, HR2.out]; simp, ((((HB.out.alloc hB _).trans HB2.out).alloc hB2 _).trans HB3.out)⟩
        · have hfs : fstM nk (pa, pn) = [] := by unfold fstM; rw [hat2, if_neg (by simp; omega)]
          have hq0 : ¬ (pa < pa + nk) := by omega
          have hq1 : nk ≤ 0 := by omega
          have B2 := Lib.hid (fun w => between_yes (f := pa + nk) (t := pa + pn) (by unfold St; omega) w)
          have HNE := Lib.hid hne
          have hC := HC.out
          rw [hat2, hne, hfs, hsn] at hC
          have hF2 := HF.out
          have hR2 := HR.out
          rw [hC] at hF2 hR2
          have e2 : pa + pn - (pa + nk) = pn - nk := by omega
          rw [e2] at B2
          have HF2 := Lib.hid hF2
          have HR2 := Lib.hid hR2
          have hrl2 : R.length + 1 ≤ RR.length := by rw [hR2]; simp
          have hD0 : 0 ≤ nk - (pa + nk - pa) := by omega
          obtain ⟨xc, hxc⟩ : ∃ x, x = fz (pa + nk) := ⟨_, rfl⟩
          obtain ⟨xd, hxd⟩ : ∃ x, x = fz (pn - nk) := ⟨_, rfl⟩
          rw [← hxc, ← hxd] at B2
          have HXC := Lib.hid hxc
          have HXD := Lib.hid hxd
          clear hF2 hR2 hC hsn hfs hat hat2 e2 hne HC HF HR hxc hxd
          go_wp2_with fail
          refine (HE.out _).mono ?_
          rintro e w' ⟨rfl, rfl⟩
          go_wp2_with fail
          refine (B2.out _).mono ?_
          rintro e w' ⟨rfl, rfl⟩
          go_wp2_with (at_builtin; refine wpList_append_mine rfl (.tmp 60) (.tmp 64) _ _ rfl w.heap.size 46 i0 (.complex .f64 0 0) 1 16 hz1 hz2 rfl (by decide) _ _ _ rfl (Mine.alloc (.inr HOR.out) _) _ 1 [.complex .f64 xc xd] rfl (Gives.elem Try.underlying41 hi0 hz0 hz1 _ rfl) (by simp only [maxLen]; omega) (by omega) (by simp; omega) ?_; intro A3 c3 w3 hm3 hg3 hb3 hat3 hown3)
          have ho3 := hown3 (.inl (by decide))
          have hv3 := (HOF.out.alloc _).kept hg3 HAP.out
          have ha3 := (HAP.out.sym.step (HOF.out.alloc _) hat3).sym
          have HO3 := Lib.hid ho3
          have HV3 := Lib.hid hv3
          have HA3 := Lib.hid ha3
          have HB3 := Lib.hid hb3
          clear ho3 hv3 ha3 hm3 hg3 hb3 hat3 hown3
          go_wp2_with fail
          go_roundw
          case measure => simp [intOf]; omega
          case rel => exact ⟨k + 1, _, F, R ++ [(pa + nk, pn - nk)], by omega, by go_num, rfl, by omega, by omega, HV3.out, by simpa [cv, HXC.out, HXD.out] using HO3.out, HA3.out, by rw [HNE.out, HF2.out]; simp, by rw [HNE.out, HR2.out]; simp, ((HB.out.alloc hB _).trans HB3.out)⟩
      · have hat2 : atM nk (pa, pn) = pa + pn := by omega
        have hfs : fstM nk (pa, pn) = [(pa, pn)] := by unfold fstM; rw [hat2, if_pos (by simp; omega)]; simp only [List.cons.injEq, Prod.mk.injEq, and_true, true_and]; omega
        have hsn : sndM nk (pa, pn) = [] := by unfold sndM; rw [hat2, if_neg (by simp)]
        have hne : nk - (pa + pn - pa) = nk - pn := by omega
        have hm : ¬ (pa + nk < pa + pn) := by omega
        have hm3 : pa + pn ≤ pa + nk := by omega
        have hm4 : pa < pa + pn := by omega
        have B1 := Lib.hid (fun w => between_yes (f := pa) (t := pa + pn) (by unfold St; omega) w)
        have HNE := Lib.hid hne
        have hC := HC.out
        rw [hat2, hne, hfs, hsn] at hC
        have hF2 := HF.out
        have hR2 := HR.out
        rw [hC] at hF2 hR2
        have e1 : pa + pn - pa = pn := by omega
        rw [e1] at B1
        have HF2 := Lib.hid hF2
        have HR2 := Lib.hid hR2
        have hfl2 : F.length + 1 ≤ FF.length := by rw [hF2]; simp
        skip
        have hD0 : 0 ≤ nk - (pa + pn - pa) := by omega
        obtain ⟨xa, hxa⟩ : ∃ x, x = fz pa := ⟨_, rfl⟩
        obtain ⟨xb, hxb⟩ : ∃ x, x = fz pn := ⟨_, rfl⟩
        rw [← hxa, ← hxb] at B1
        have HXA := Lib.hid hxa
        have HXB := Lib.hid hxb
        clear hF2 hR2 hC hsn hfs hat hat2 e1 hne HC HF HR hxa hxb
        go_wp2_with fail
        refine (HE.out _).mono ?_
        rintro e w' ⟨rfl, rfl⟩
        go_wp2_with fail
        refine (B1.out _).mono ?_
        rintro e w' ⟨rfl, rfl⟩
        go_wp2_with (at_builtin; refine wpList_append_mine rfl (.tmp 51) (.tmp 55) _ _ rfl w.heap.size 46 i0 (.complex .f64 0 0) 1 16 hz1 hz2 rfl (by decide) _ _ _ rfl (Mine.alloc (.inr HOF.out) _) _ 1 [.complex .f64 xa xb] rfl (Gives.elem Try.underlying41 hi0 hz0 hz1 _ rfl) (by simp only [maxLen]; omega) (by omega) (by simp; omega) ?_; intro A2 c2 w2 hm2 hg2 hb2 hat2 hown2)
        have ho2 := hown2 (.inl (by decide))
        have hv2 := (HOR.out.alloc _).kept hg2 HAP.out.sym
        have ha2 := HAP.out.step (HOR.out.alloc _) hat2
        have HO2 := Lib.hid ho2
        have HV2 := Lib.hid hv2
        have HA2 := Lib.hid ha2
        have HB2 := Lib.hid hb2
        have hB2 : w.heap.size ≤ w2.heap.size := by have := hb2.size; simp at this; omega
        clear ho2 hv2 ha2 hm2 hg2 hb2 hat2 hown2
        go_wp2_with fail
        go_roundw
        case measure => simp [intOf]; omega
        case rel => exact ⟨k + 1, _, F ++ [(pa, pn)], R, by omega, by go_num, rfl, by omega, by omega, by simpa [cv, HXA.out, HXB.out] using HO2.out, HV2.out, HA2.out, by rw [HNE.out, HF2.out]; simp, by rw [HNE.out, HR2.out]; simp, ((HB.out.alloc hB _).trans HB2.out)⟩
    · have hge : (l.length : Int) ≤ (k : Int) := by omega
      have hfin : FF = F ∧ RR = R := by
        have a1 := HF.out
        have a2 := HR.out
        rw [List.drop_of_length_le (by omega)] at a1 a2
        simp only [cutM, List.append_nil] at a1 a2
        exact ⟨a1, a2⟩
      have HH := Lib.hid hfin
      clear hfin
      go_wp2_with fail
      go_ret3
      rw [HH.out.1, HH.out.2]
      obtain ⟨A1, c1, rfl, q1, q2, q3⟩ := Mine.form (.inr HOF.out)
      obtain ⟨A2, c2, rfl, r1, r2, r3⟩ := Mine.form (.inr HOR.out)
      exact ⟨A1, c1, A2, c2, rfl, q3, q1, r3, r1, HB.out⟩
end
end Go.Proofs.Ytipdaecihfkonaa.Sp
