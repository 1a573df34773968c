/-
  'BitsCounts' walked: stretches have just as many blocks as are free; what is taken is free, the least ones.
-/
import Derived.Test.YtipdaecihfkonaaBit4
import Derived.Test.YtipdaecihfkonaaPlace
namespace Go.Proofs.Ytipdaecihfkonaa.Bt
open Go.RowKit Wd By Sp Fl Ga Pl
set_option linter.unusedVariables false
theorem bel_drew {B : Nat} {a w : World} (h : Below B a w) (n : Nat) : Below B a (w.drewN n) := ⟨h.os, h.tape, h.output, h.size, h.block⟩

set_option maxRecDepth 50000 in
set_option maxHeartbeats 3200000 in
theorem counts_walk (Ao : Option Addr) (old : List UInt8) (co : Nat) (bl n : Int) (w : World)
    (ho : Sl w w.heap.size 1 Ao old.length (old.map bv)) (hco : old.length ≤ co) (hod : old.length ≤ 140737488355328)
    (h1 : -9223372036854775808 ≤ bl) (h2 : bl ≤ 9223372036854775807) (h3 : -9223372036854775808 ≤ n) (h4 : n ≤ 9223372036854775807) :
    Calls Try.prog 7 #[.slice Ao old.length co, .int .i64 bl, .int .i64 n] w fun e w' => e = .returned (.bool true) ∧ Below w.heap.size w w' := by
  have HO0 := Lib.hid ho
  clear ho
  have P1 := Lib.hid (fun w => place_any bl 1025 w (by omega) (by omega) h1 h2)
  obtain ⟨p0, p1⟩ := place_bd bl 1025 (by omega)
  generalize placeZ bl 1025 = k at *
  have P2 := Lib.hid (fun w => place_any n 40 w (by omega) (by omega) h3 h4)
  obtain ⟨p2, p3⟩ := place_bd n 40 (by omega)
  generalize placeZ n 40 = m at *
  clear h1 h2 h3 h4
  have hov : (over old (List.replicate 128 0)).length = 128 := by rw [over_len]; simp
  obtain ⟨L, hL⟩ : ∃ L, L = over old (List.replicate 128 0) := ⟨_, rfl⟩
  rw [← hL] at hov
  have HLE := Lib.hid hL
  have CS := Lib.hid (fun A w hs => spans_any A L 128 k w hs (by omega))
  have CT := Lib.hid (fun A w hs => take_any A L 128 k m w hs (by omega))
  have CF := Lib.hid (fun A w hs => free_any A L 128 k w hs (by omega))
  have CU := Lib.hid (fun A j w hs => used_any A L 128 j w hs)
  rw [hov] at CS CT CF CU
  have hsum := spans_sumP L k
  rw [← hsum] at CF
  have htb : takeB L k m = decide (m ≤ sumP (spans L k)) := by
    unfold takeB
    rw [← hsum]
    simp [p2]
  have HST := Lib.hid (spans_st L k)
  have HFR := Lib.hid (spans_free L k)
  have HNX := Lib.hid (fun i p h => ord_next (spans L k) (-1) i p (spans_ord L k) h)
  have HEN := Lib.hid (fun i => end_low ((spans L k).take i) (-1) (fun p hp => spans_st L k p (List.mem_of_mem_take hp)) (by omega) (by omega))
  have HSB : Hid (∀ i, 0 ≤ sumP ((spans L k).take i) ∧ sumP ((spans L k).take i) ≤ 33554432) := Lib.hid fun i => by
    have h := ord_bd ((spans L k).take i) (-1) (fun p hp => spans_sz L k p (List.mem_of_mem_take hp)) (ord_take _ (-1) i (spans_ord L k)) (by omega)
    exact ⟨h.1, h.2.2⟩
  have hsl := spans_len L k
  have HGP := Lib.hid (take_gap L k m)
  have htl : (takeL L k m).length ≤ 1024 := by
    have h1 := frees_len L k (top k)
    have h2 := top_le k
    unfold takeL
    split
    · rw [List.length_take]; omega
    · simp
  rw [htb] at CT
  clear htb hsum hL
  generalize spans L k = sp at *
  generalize takeL L k m = T at *
  have HOV := Lib.hid hov
  clear hov
  go_enter Try.func7, Try.ntmps7
  go_wp2_with (first
    | (refine wpList_make_bytes rfl _ _ rfl 128 (by decide) rfl rfl ?_; intro w2 hmk hmb hmlt)
    | (refine wpList_copy_bytes rfl _ _ rfl (M := List.replicate 128 0) (l := old) (by simp) rfl rfl hmk (HO0.out.on (Nat.le_refl _) hmb) ?_; intro w1 v1 hcp hon; rw [← HLE.out] at hcp))
  have HB1 := Lib.hid (hon.below hmb (Nat.le_refl _))
  have HS1 := Lib.hid (Sl.own hcp)
  have hlt0 : w.heap.size ≤ w1.heap.size := HB1.out.size
  clear hcp hon hmk hmb
  obtain ⟨g, hg⟩ : ∃ g, g = w.heap.size := ⟨_, rfl⟩
  rw [← hg] at HS1 hlt0 HB1 ⊢
  have HG := Lib.hid hg
  clear hg hmlt
  refine (P1.out _).mono ?_
  rintro e w' ⟨rfl, rfl⟩
  go_wp2_with fail
  refine (CS.out _ _ HS1.out).mono ?_
  rintro e w3 ⟨A3, c3, rfl, hs3, hc3, hb3⟩
  have HS3 := Lib.hid hs3
  have HB3 := Lib.hid hb3
  have hz3 := hb3.size
  clear hs3 hb3
  go_wp2_with fail
  go_loopw [12, 10, 11] (fun iv sv ev wr => ∃ i : Nat, i ≤ sp.length ∧ iv = .int .i64 (i : Int) ∧ sv = .int .i64 (sumP (sp.take i)) ∧ ev = .int .i64 (endM (-1) (sp.take i)) ∧ Below w3.heap.size w3 wr) (fun i _ _ _ => sp.length - (intOf i).toNat)
  case atStart => exact ⟨0, by omega, rfl, rfl, rfl, Below.refl _ _⟩
  case round =>
    obtain ⟨i, hi, rfl, rfl, rfl, hbel⟩ := hrel
    have HB := Lib.hid hbel
    have hB := hbel.size
    have HB1R := Lib.hid (HB3.out.trans (Below.mono hbel hz3))
    by_cases hlt : i < sp.length
    · have hltI : (i : Int) < (sp.length : Int) := by omega
      have hi0 : (0 : Int) ≤ (i : Int) := by omega
      obtain ⟨p, hp⟩ : ∃ p, sp[i]? = some p := ⟨_, List.getElem?_eq_getElem hlt⟩
      obtain ⟨b, off, rfl, hbb, hcell⟩ := (HS3.out.on (Nat.le_refl _) HB.out).at (by omega) (by decide)
      have hck := hcell i (cv p) (by rw [List.getElem?_map, hp]; rfl)
      have hst := HST.out p (List.mem_of_getElem? hp)
      have hfr := HFR.out p (List.mem_of_getElem? hp)
      have hnx := HNX.out i p hp
      have HET := Lib.hid (end_take (-1) hp)
      have HTS := Lib.hid (take_sum hp)
      obtain ⟨e1, e2⟩ := HEN.out i
      obtain ⟨s1, s2⟩ := HSB.out i
      obtain ⟨s3, s4⟩ := HSB.out (i + 1)
      rw [HTS.out] at s3 s4
      obtain ⟨pa, pn⟩ := p
      unfold cv at hck
      simp only at hck hst hfr hnx HET HTS s3 s4
      have HFR2 := Lib.hid hfr
      have k1 := fun w => run_convert_float_int (P := Try.prog) w 45 3 .f64 .i64 (fz pa) pa (by rw [Try.underlying45]; rfl) Try.underlying3 (conv_fz hst.a.sm)
      have k2 := fun w => run_convert_float_int (P := Try.prog) w 45 3 .f64 .i64 (fz pn) pn (by rw [Try.underlying45]; rfl) Try.underlying3 (conv_fz hst.n.sm)
      obtain ⟨d1, d2, d3⟩ := hst
      clear hp hbb hcell hfr hbel
      generalize fz pa = fa at *
      generalize fz pn = fn at *
      generalize sumP (sp.take i) = S at *
      generalize endM (-1) (sp.take i) = E at *
      go_wp2_with fail
      go_quiet (fail)
      have hbk := bel_drew HB.out nq
      generalize wr.drewN nq = wk at *
      have HBK := Lib.hid hbk
      have HB1K := Lib.hid (HB3.out.trans (Below.mono hbk hz3))
      clear hbk
      go_wp2_with fail
      go_loop [15] (fun j => ∃ t : Int, pa ≤ t ∧ t ≤ pa + pn ∧ j = .int .i64 t) (fun j => (pa + pn - intOf j).toNat)
      case atStart => exact ⟨pa, by omega, by omega, rfl⟩
      case round =>
        obtain ⟨t, t1, t2, rfl⟩ := hrel
        by_cases hlt2 : t < pa + pn
        · obtain ⟨f1, f2⟩ := HFR2.out t t1 hlt2
          have CUT := Lib.hid (CU.out _ t wk (HS1.out.on (Nat.le_refl _) HB1K.out))
          rw [f1] at CUT
          clear f1
          go_wp2_with fail
          refine CUT.out.mono ?_
          rintro e w' ⟨rfl, rfl⟩
          go_wp2_with fail
          go_round
          case rel => exact ⟨t + 1, by omega, by omega, by go_num⟩
          case measure => simp [intOf]; omega
        · obtain rfl : t = pa + pn := by omega
          go_wp2_with fail
          go_roundw
          case rel => exact ⟨i + 1, by omega, by go_num, by rw [HTS.out], by rw [HET.out], HBK.out⟩
          case measure => simp [intOf]; omega
    · have hge : (sp.length : Int) ≤ (i : Int) := by omega
      obtain rfl : i = sp.length := by omega
      rw [List.take_length]
      obtain ⟨s1, s2⟩ := HSB.out sp.length
      obtain ⟨e1, e2⟩ := HEN.out sp.length
      rw [List.take_length] at s1 s2 e1 e2
      generalize sumP sp = S at *
      generalize endM (-1) sp = E at *
      clear hbel
      go_wp2_with fail
      refine (P2.out _).mono ?_
      rintro e w' ⟨rfl, rfl⟩
      go_wp2_with fail
      refine (CT.out _ _ (HS1.out.on (Nat.le_refl _) HB1R.out)).mono ?_
      rintro e w4 ⟨A4, c4, rfl, hs4, hc4, _, hb4⟩
      have HS4 := Lib.hid hs4
      have HB4 := Lib.hid hb4
      have hz4 := hb4.size
      have HB14 := Lib.hid (HB1R.out.trans (Below.mono hb4 HB1R.out.size))
      clear hs4 hb4
      go_wp2_with fail
      refine (P2.out _).mono ?_
      rintro e w' ⟨rfl, rfl⟩
      go_wp2_with fail
      have HS1K := Lib.hid (HS1.out.on (Nat.le_refl _) HB14.out)
      go_loop [19, 18] (fun iv lv => ∃ i : Nat, i ≤ T.length ∧ iv = .int .i64 (i : Int) ∧ lv = .int .i64 (lastM T i)) (fun i _ => T.length - (intOf i).toNat)
      case atStart => exact ⟨0, by omega, rfl, rfl⟩
      case round =>
        obtain ⟨i, hi, rfl, rfl⟩ := hrel
        by_cases hlt : i < T.length
        · have hltI : (i : Int) < (T.length : Int) := by omega
          have hi0 : (0 : Int) ≤ (i : Int) := by omega
          obtain ⟨x, hx⟩ : ∃ x, T[i]? = some x := ⟨_, List.getElem?_eq_getElem hlt⟩
          obtain ⟨b, off, rfl, hbb, hcell⟩ := HS4.out.at (by omega) (by decide)
          have hck := hcell i (.int .i64 x) (by rw [List.getElem?_map, hx]; rfl)
          obtain ⟨x0, x1, x2, x3, x4, x5, x6⟩ := HGP.out i x hx
          have HX3 := Lib.hid x3
          have HX6 := Lib.hid x6
          have hlx : lastM T (i + 1) = x := by
            show T.getD i (-1) = x
            rw [List.getD_eq_getElem?_getD, hx]
            rfl
          have HLX := Lib.hid hlx
          clear hx hbb hcell x3 x6 hlx
          generalize lastM T i = la at *
          go_wp2_with fail
          go_loop [20] (fun j => ∃ t : Int, la + 1 ≤ t ∧ t ≤ x ∧ j = .int .i64 t) (fun j => (x - intOf j).toNat)
          case atStart => exact ⟨la + 1, by omega, by omega, rfl⟩
          case round =>
            obtain ⟨t, t1, t2, rfl⟩ := hrel
            by_cases hlt2 : t < x
            · have CUT := Lib.hid (CU.out _ t w4 HS1K.out)
              rw [HX6.out t (by omega) hlt2] at CUT
              go_wp2_with fail
              refine CUT.out.mono ?_
              rintro e w' ⟨rfl, rfl⟩
              go_wp2_with fail
              go_round
              case rel => exact ⟨t + 1, by omega, by omega, by go_num⟩
              case measure => simp [intOf]; omega
            · obtain rfl : t = x := by omega
              have CUT := Lib.hid (CU.out _ t w4 HS1K.out)
              rw [HX3.out] at CUT
              go_wp2_with fail
              refine CUT.out.mono ?_
              rintro e w' ⟨rfl, rfl⟩
              go_wp2_with fail
              go_round
              case rel => exact ⟨i + 1, by omega, by go_num, by rw [HLX.out]⟩
              case measure => simp [intOf]; omega
        · have hge : (T.length : Int) ≤ (i : Int) := by omega
          go_wp2_with fail
          refine (CF.out _ _ HS1K.out).mono ?_
          rintro e w5 ⟨rfl, hb5⟩
          have HB5 := Lib.hid (HB14.out.trans (Below.mono hb5 HB14.out.size))
          clear hb5
          go_wp2_with fail
          refine (awake_any _).mono ?_
          rintro e w7 ⟨rfl, hb7⟩
          have HB7 := Lib.hid (HB5.out.trans (Below.mono hb7 HB5.out.size))
          clear hb7
          go_wp2_with fail
          go_ret
          exact ⟨rfl, by rw [← HG.out]; exact HB1.out.trans (Below.mono HB7.out hlt0)⟩
end Go.Proofs.Ytipdaecihfkonaa.Bt
