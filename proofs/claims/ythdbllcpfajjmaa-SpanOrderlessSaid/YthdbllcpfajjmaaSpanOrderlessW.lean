/-
  'SpanOrderless' walked: the order of a list, and its coming twice, turn nothing in its normal form.
-/
import Derived.Test.YthdbllcpfajjmaaSpanO
import Derived.BigRegion
import Derived.Laws.OwnMore
namespace Go.Proofs.Ythdbllcpfajjmaa.Sp
open Fl Go.RowKit Ga Wd
set_option linter.unusedVariables false
set_option maxRecDepth 100000 in
set_option maxHeartbeats 3200000 in
theorem orderless_walk (A : Option Addr) (l : List Int) (c : Nat) (by_ : Int) (tw : Bool) (w : World) (hs : Sl w w.heap.size 1 A l.length (l.map (Value.int .i64))) (hc : l.length ≤ c) (hk : l.length ≤ 17592186044416) (hb : ∀ x ∈ l, -9223372036854775808 ≤ x ∧ x ≤ 9223372036854775807)
    (h1 : -9223372036854775808 ≤ by_) (h2 : by_ ≤ 9223372036854775807) :
    Calls Try.prog 4 #[.slice A l.length c, .int .i64 by_, .bool tw] w fun e w' => e = .returned (.bool true) ∧ Below w.heap.size w w' := by
  obtain ⟨i0, hi, hz0, hz1, hz2⟩ := info_parts infoC
  have LST := Lib.hid (list_any A l c w hs hk hb)
  obtain ⟨m, hm⟩ : ∃ m, m = listM l := ⟨_, rfl⟩
  have hmst := list_st l
  have hml := list_len l
  rw [← hm] at LST hmst hml
  obtain ⟨n, hn⟩ : ∃ n, n = nf m := ⟨_, rfl⟩
  obtain ⟨n1, n2, n3⟩ := nf_spec hmst
  have nl := nf_len m
  rw [← hn] at n1 n2 n3 nl
  have hnl : n.length ≤ 20 := by omega
  have CSM := Lib.hid (fun A c w hs => cs_any A m c w hs (by omega))
  have NRM := Lib.hid (fun A c w hs => norm_any A m c w hmst hs (by omega))
  rw [← hn] at NRM
  have SM1 := Lib.hid (fun A1 A2 c1 c2 w h1 h2 => same_any A1 A2 n c1 c2 w n1 h1 h2 (by omega))
  have NR1 : Hid (∀ ys : Ls, ys.Perm m → ∀ A c w, Sl w w.heap.size 1 A m.length (ys.map cv) → Calls Try.prog 14 #[.slice A m.length c] w (NormR w n)) := Lib.hid (by
    intro ys hp A c w hs
    have h := norm_any A ys c w (hmst.ofPerm hp) (by rw [hp.length_eq]; exact hs) (by rw [hp.length_eq]; omega)
    rw [nf_perm hp hmst, ← hn, hp.length_eq] at h
    exact h)
  have NR2 : Hid (∀ ys : Ls, ys.Perm m → ∀ A c w, Sl w w.heap.size 1 A (m.length + m.length) ((ys ++ m).map cv) → Calls Try.prog 14 #[.slice A (m.length + m.length) c] w (NormR w n)) := Lib.hid (by
    intro ys hp A c w hs
    have hl2 : (ys ++ m).length = m.length + m.length := by rw [List.length_append, hp.length_eq]
    have h := norm_any A (ys ++ m) c w ((hmst.ofPerm hp).append hmst) (by rw [hl2]; exact hs) (by rw [hl2]; omega)
    rw [nf_twice hp hmst, ← hn, hl2] at h
    exact h)
  obtain ⟨a, ha⟩ : ∃ a : Nat, a = (Pl.placeZ by_ m.length).toNat := ⟨_, rfl⟩
  have PL : Hid (0 < m.length → a < m.length ∧ ∀ w, Calls Try.prog 16 #[.int .i64 by_, .int .i64 (m.length : Int)] w fun e w' => e = .returned (.int .i64 (a : Int)) ∧ w = w') := Lib.hid (by
    intro h0
    obtain ⟨a0, a1⟩ := Pl.place_bd by_ m.length (by omega)
    refine ⟨by omega, fun w => ?_⟩
    have h := Pl.place_any by_ m.length w (by omega) (by omega) h1 h2
    have e : Pl.placeZ by_ m.length = (a : Int) := by omega
    rw [e] at h
    exact h)
  obtain ⟨R, hR⟩ : ∃ R, R = rotM m a := ⟨_, rfl⟩
  have RP : Hid (R.Perm m) := Lib.hid (by rw [hR]; exact rot_perm m a)
  have RA : Hid (∀ i r, a < m.length → i < m.length → r = (i + a) % m.length → R[i]? = m[r]?) := Lib.hid (fun i r h1 h2 h3 => by rw [hR]; exact rot_at h1 h2 h3)
  clear hm hn hmst n1 n2 n3 nl ha hR
  go_enter Try.func4, Try.ntmps4
  have HB0 := Lib.hid (Below.refl w.heap.size w)
  go_wp2_with fail
  refine (LST.out).mono ?_
  rintro e W1 ⟨A1, c1, rfl, hs1, hc1, hm1, hb1, _⟩
  have M_1 := Lib.hid hs1
  have HB1 := Lib.hid (HB0.out.trans (Below.mono hb1 HB0.out.size))
  clear hb1
  go_wp2_with fail
  refine (CSM.out _ _ _ M_1.out).mono ?_
  rintro e W2 ⟨A2, c2, rfl, hs2, hc2, hm2, hb2, _⟩
  have C_2 := Lib.hid hs2
  have M_2 := Lib.hid (M_1.out.on (Nat.le_refl _) hb2)
  have HB2 := Lib.hid (HB1.out.trans (Below.mono hb2 HB1.out.size))
  clear hb2
  go_wp2_with fail
  refine (NRM.out _ _ _ C_2.out).mono ?_
  rintro e W3 ⟨A4, c4, rfl, hs4, hc4, hm4, hb3⟩
  have N_3 := Lib.hid hs4
  have M_3 := Lib.hid (M_2.out.on (Nat.le_refl _) hb3)
  have HB3 := Lib.hid (HB2.out.trans (Below.mono hb3 HB2.out.size))
  clear hb3
  go_wp2_with fail
  go_loopw [10, 11] (fun sv iv wr => ∃ (i : Nat) (A7 : Option Addr) (c7 : Nat), i ≤ m.length ∧ iv = .int .i64 (i : Int) ∧ sv = .slice A7 i c7 ∧ wr.ownsRow W3.heap.size 22 1 (.slice A7 i c7) i ((R.take i).map cv) ∧ Below W3.heap.size W3 wr) (fun _ iv _ => m.length - (intOf iv).toNat)
  case atStart => exact ⟨0, none, 0, by omega, rfl, rfl, World.ownsRow_nil _ _ _ _, Below.refl _ _⟩
  case round =>
    obtain ⟨i, A7, c7, him, rfl, rfl, hown, hbel⟩ := hrel
    have HBI := Lib.hid hbel
    have HO := Lib.hid hown
    clear hbel hown
    by_cases hlt : i < m.length
    · have hltI : (i : Int) < (m.length : Int) := by omega
      obtain ⟨ham, hpl⟩ := PL.out (by omega)
      have HP := Lib.hid hpl
      have hamI : (a : Int) < (m.length : Int) := by omega
      have ha0 : (0 : Int) ≤ (a : Int) := by omega
      have hmI : (m.length : Int) ≤ 20 := by omega
      have hne : ((m.length : Int) == 0) = false := by rw [beq_eq_false_iff_ne]; omega
      obtain ⟨r, hr⟩ : ∃ r, r = (i + a) % m.length := ⟨_, rfl⟩
      have hrm : r < m.length := by rw [hr]; exact Nat.mod_lt _ (by omega)
      have hrI : (r : Int) < (m.length : Int) := by omega
      have hr0 : (0 : Int) ≤ (r : Int) := by omega
      have hrw : ((i : Int) + (a : Int)).tmod (m.length : Int) = (r : Int) := by rw [hr]; rfl
      obtain ⟨p, hp⟩ : ∃ p, m[r]? = some p := ⟨_, List.getElem?_eq_getElem hrm⟩
      have hRi : R[i]? = some p := (RA.out i r ham hlt hr).trans hp
      have HNX : Hid ((R.take i).map cv ++ [cv p] = (R.take (i + 1)).map cv) := Lib.hid (by rw [List.take_add_one, hRi, List.map_append]; rfl)
      have hA : ∃ b1 o1, A1 = some ⟨b1, o1, none⟩ ∧ b1 < W3.heap.size ∧ W3.cell? ⟨b1, o1 + r, none⟩ = some (.complex .f64 (fz p.1) (fz p.2)) := by
        obtain ⟨b1, o1, e, hbw, hcc⟩ := M_3.out.at (by omega) (by decide)
        exact ⟨b1, o1, e, hbw, hcc r _ (by rw [List.getElem?_map, hp]; rfl)⟩
      obtain ⟨b1, o1, rfl, hbw1, hcp⟩ := hA
      have hcell := (Below.cell HBI.out (p := ⟨b1, o1 + r, none⟩) hbw1).trans hcp
      clear hp hRi hcp hr hpl
      go_wp2_with fail
      refine (HP.out _).mono ?_
      rintro e w' ⟨rfl, rfl⟩
      go_wp2_with (at_builtin; refine wpList_append_mine rfl (.tmp 30) (.tmp 43) _ _ rfl W3.heap.size 22 i0 (.complex .f64 0 0) 1 16 hz1 hz2 rfl (by decide) _ _ _ rfl (Mine.alloc (.inr HO.out) _) _ 1 [.complex .f64 (fz p.1) (fz p.2)] rfl (Gives.elem Try.underlying32 hi hz0 hz1 _ rfl) (by simp only [maxLen]; omega) (by omega) (by have := HBI.out.size; simp; omega) ?_; intro A2' c2' w2 hm2 hg2 hb2 hat2 hown2)
      have HO2 := Lib.hid (hown2 (.inl (by decide)))
      have HB2 := Lib.hid ((HBI.out.alloc HBI.out.size _).trans hb2)
      clear hm2 hg2 hb2 hat2 hown2 hrw hcell
      go_wp2_with fail
      go_roundw
      case rel => exact ⟨i + 1, A2', c2', by omega, by go_num, rfl, by rw [← HNX.out]; exact HO2.out, HB2.out⟩
      case measure => simp [intOf]; omega
    · have hge : (m.length : Int) ≤ (i : Int) := by omega
      obtain rfl : i = m.length := by omega
      have hmI : (m.length : Int) ≤ 20 := by omega
      have HRT : Hid (R.take m.length = R) := Lib.hid (List.take_of_length_le (by rw [RP.out.length_eq]; omega))
      rw [HRT.out] at HO
      clear HRT hge hlt him
      go_wp2_with fail
      go_loopw [12, 13] (fun iv jv wr => ∃ (i : Nat) (jz : Int) (ys : Ls), iv = .int .i64 (i : Int) ∧ jv = .int .i64 jz ∧ jz + (i : Int) = (m.length : Int) - 1 ∧ i ≤ m.length ∧ ys.Perm m ∧ wr.ownsRow W3.heap.size 22 1 (.slice A7 m.length c7) m.length (ys.map cv) ∧ Below W3.heap.size W3 wr) (fun iv _ _ => m.length - (intOf iv).toNat)
      case atStart => exact ⟨0, (m.length : Int) - 1, R, rfl, by go_num, by omega, by omega, RP.out, HO.out, HBI.out⟩
      case round =>
        clear HO HBI
        obtain ⟨i, jz, ys, rfl, rfl, hij, him, hperm, hown, hbel⟩ := hrel
        have HPM := Lib.hid hperm
        have hyl := hperm.length_eq
        by_cases hlt : (i : Int) < jz
        · obtain ⟨j, rfl⟩ : ∃ j : Nat, jz = (j : Int) := ⟨jz.toNat, by omega⟩
          have him' : i < m.length := by omega
          have hjm : j < m.length := by omega
          have hi0 : (0 : Int) ≤ (i : Int) := by omega
          have hj0 : (0 : Int) ≤ (j : Int) := by omega
          have hiI : (i : Int) < (m.length : Int) := by omega
          have hjI : (j : Int) < (m.length : Int) := by omega
          have hne : i ≠ j := by omega
          obtain ⟨x, hx⟩ : ∃ x, ys[i]? = some x := ⟨_, List.getElem?_eq_getElem (by omega)⟩
          obtain ⟨y, hy⟩ : ∃ y, ys[j]? = some y := ⟨_, List.getElem?_eq_getElem (by omega)⟩
          obtain ⟨g, rfl, hgb, hgl, hgc, hgm⟩ := own_form hown (by omega)
          obtain ⟨ci, fi⟩ := ownc_at hown hx
          obtain ⟨cj, fj⟩ := ownc_at hown hy
          have hset := ownc_set hown i y
          have hyj : (ys.set i y)[j]? = some y := by rw [List.getElem?_set_ne hne]; exact hy
          obtain ⟨ck, fk⟩ := ownc_at hset hyj
          have HSET := Lib.hid (ownc_set hset j x)
          have HPS := Lib.hid ((swp_perm hx hy).trans hperm)
          have HBS := Lib.hid (below_set (below_set hbel (p := ⟨g, i, none⟩) hgb (cv y)) (p := ⟨g, j, none⟩) hgb (cv x))
          clear hx hy hyj hset hown hbel hperm hyl
          unfold cv at ci cj ck HSET HBS
          have hst : ∀ w a x y m, (store a (Value.complex .f64 x y) m).run Try.prog w = stored Try.prog w a (Value.complex .f64 x y) m := fun w a x y m => run_store _ _ _ _ _ rfl
          go_wp2_with fail
          go_region
          clear ci cj ck fi fj fk
          generalize HW2 : ((wr.setCell ⟨g, i, none⟩ (.complex .f64 (fz y.1) (fz y.2))).setCell ⟨g, j, none⟩ (.complex .f64 (fz x.1) (fz x.2))) = w2 at *
          clear HW2
          go_wp2_with fail
          go_roundw
          case rel => exact ⟨i + 1, (j : Int) - 1, (ys.set i y).set j x, by go_num, by go_num, by omega, by omega, HPS.out, HSET.out, HBS.out.drew⟩
          case measure => simp [intOf]; omega
        · have hge : jz ≤ (i : Int) := by omega
          have HO := Lib.hid hown
          have HBX := Lib.hid hbel
          clear hown hbel hperm hlt
          cases tw
          · go_wp2_with fail
            refine (NR1.out _ HPM.out _ _ _ (Sl.own HO.out)).mono ?_
            rintro e w5 ⟨A5, c5, rfl, hs5, hc5, hm5, hb5⟩
            have G5 := Lib.hid hs5
            have HB5 := Lib.hid (HBX.out.trans (Below.mono hb5 HBX.out.size))
            clear hb5 hs5
            go_wp2_with fail
            refine (SM1.out _ _ _ _ _ (N_3.out.on (Nat.le_refl _) HB5.out) G5.out).mono ?_
            rintro e w7 ⟨rfl, hb7⟩
            have HB7 := Lib.hid (HB5.out.trans (Below.mono hb7 HB5.out.size))
            clear hb7
            go_wp2_with fail
            refine (awake_any _).mono ?_
            rintro e w8 ⟨rfl, hb8⟩
            have HB8 := Lib.hid (HB7.out.trans (Below.mono hb8 HB7.out.size))
            go_wp2_with fail
            go_ret
            exact ⟨rfl, HB3.out.trans (Below.mono HB8.out HB3.out.size)⟩
          · go_wp2_with (at_builtin; refine wpList_append_mine rfl (.tmp 70) (.tmp 71) _ _ rfl W3.heap.size 22 i0 (.complex .f64 0 0) 1 16 hz1 hz2 rfl (by decide) _ _ _ rfl (.inr HO.out) _ m.length (m.map cv) rfl (Gives.slice Try.underlying32 hi hz0 (by rw [hz1]; exact M_3.out.on (Nat.le_refl _) HBX.out) (cv_one m)) (by simp only [maxLen]; omega) (by omega) HBX.out.size ?_; intro A2' c2' w2 hm2 hg2 hb2 hat2 hown2)
            obtain ⟨Aq, cq, hvq, hcq, hmq, hsq⟩ := hm2.form
            injection hvq with hv1 hv2 hv3
            subst hv1; subst hv3
            rw [← List.map_append] at hsq
            have HSQ := Lib.hid hsq
            have HBY := Lib.hid (HBX.out.trans hb2)
            clear hm2 hg2 hb2 hat2 hown2 hsq hv2
            go_wp2_with fail
            refine (NR2.out _ HPM.out _ _ _ HSQ.out).mono ?_
            rintro e w5 ⟨A5, c5, rfl, hs5, hc5, hm5, hb5⟩
            have G5 := Lib.hid hs5
            have HB5 := Lib.hid (HBY.out.trans (Below.mono hb5 HBY.out.size))
            clear hb5 hs5
            go_wp2_with fail
            refine (SM1.out _ _ _ _ _ (N_3.out.on (Nat.le_refl _) HB5.out) G5.out).mono ?_
            rintro e w7 ⟨rfl, hb7⟩
            have HB7 := Lib.hid (HB5.out.trans (Below.mono hb7 HB5.out.size))
            clear hb7
            go_wp2_with fail
            refine (awake_any _).mono ?_
            rintro e w8 ⟨rfl, hb8⟩
            have HB8 := Lib.hid (HB7.out.trans (Below.mono hb8 HB7.out.size))
            go_wp2_with fail
            go_ret
            exact ⟨rfl, HB3.out.trans (Below.mono HB8.out HB3.out.size)⟩
end Go.Proofs.Ythdbllcpfajjmaa.Sp
