/-
  'SpanParts' walked: what is cut off and what is left are all, and have nothing together.
-/
import Derived.Test.YthdbllcpfajjmaaSpanA
import Derived.Test.YthdbllcpfajjmaaRely
namespace Go.Proofs.Ythdbllcpfajjmaa.Sp
open Fl Go.RowKit Ga Wd
set_option linter.unusedVariables false
theorem meet_none {p q : Int × Int} (hp : St p.1 p.2) (hq : St q.1 q.2) (h : p.1 + p.2 ≤ q.1) (w : World) : Calls Try.prog 18 #[.complex .f64 (fz p.1) (fz p.2), .complex .f64 (fz q.1) (fz q.2)] w fun e w' => e = .returned (.complex .f64 0 0) ∧ w = w' := by
  have hm := meet_any hp hq w
  have e : meetP p q = (0, 0) := by
    unfold meetP btw
    unfold St at hp hq
    rw [if_neg (by omega)]
  rw [e, cv_zero] at hm
  exact hm
theorem gtr_fz {a b : Int} (ha : Sm a) (hb : Sm b) : (FloatKind.f64.format.order (fz a) (fz b) == some .gt) = decide (b < a) := by rw [order_fz ha hb, cmp_gt]
set_option maxRecDepth 100000 in
set_option maxHeartbeats 3200000 in
theorem parts_walk (A : Option Addr) (l : List Int) (c : Nat) (i : Int) (w : World) (hs : Sl w w.heap.size 1 A l.length (l.map (Value.int .i64))) (hc : l.length ≤ c) (hk : l.length ≤ 17592186044416) (hb : ∀ x ∈ l, -9223372036854775808 ≤ x ∧ x ≤ 9223372036854775807)
    (h1 : -9223372036854775808 ≤ i) (h2 : i ≤ 9223372036854775807) :
    Calls Try.prog 8 #[.slice A l.length c, .int .i64 i] w fun e w' => e = .returned (.bool true) ∧ Below w.heap.size w w' := by
  obtain ⟨i0, hi, hz0, hz1, hz2⟩ := info_parts infoC
  have LST := Lib.hid (list_any A l c w hs hk hb)
  obtain ⟨m, hm⟩ : ∃ m, m = listM l := ⟨_, rfl⟩
  have hmst := list_st l
  have hml := list_len l
  have hsb := nf_sum l
  rw [← hm] at LST hmst hml hsb
  obtain ⟨n, hn⟩ : ∃ n, n = nf m := ⟨_, rfl⟩
  obtain ⟨n1, n2, n3⟩ := nf_spec hmst
  have nl := nf_len m
  rw [← hn] at n1 n2 n3 nl hsb
  have hnl : n.length ≤ 20 := by omega
  have hsm := sumM_of n2
  have hs0 := sum_nonneg n1
  obtain ⟨S, hS⟩ : ∃ S, S = sumP n := ⟨_, rfl⟩
  have NRM := Lib.hid (fun A c w hs => norm_any A m c w hmst hs (by omega))
  rw [← hn] at NRM
  have SUM := Lib.hid (fun A c w hs => sum_any A n c w n1.sz hs (by omega))
  rw [hsm, ← hS] at SUM
  rw [← hS] at hs0 hsb
  have CS := Lib.hid (fun A c w hs => cs_any A n c w hs (by omega))
  have PL1 := Lib.hid (fun w => Pl.place_any i (S + 1) w (by omega) (by omega) h1 h2)
  obtain ⟨a0, a1⟩ := Pl.place_bd i (S + 1) (by omega)
  generalize Pl.placeZ i (S + 1) = a at *
  obtain ⟨p1, p2, p3, p4, p5, p6, p7, p8⟩ := cut_spec (n := a) n1 n2 a0 (by omega)
  have C1 := Lib.hid (fun A c w hs => cut_yes A n c a w n1.sz hs (by omega) n2 a0 (by rw [hsm]; omega))
  obtain ⟨l1, l2⟩ := cut_len n a
  obtain ⟨x, hx⟩ : ∃ x, x = (cutM a n).1 := ⟨_, rfl⟩
  obtain ⟨y, hy⟩ : ∃ y, y = (cutM a n).2 := ⟨_, rfl⟩
  rw [← hx] at p1 p3 p5 p7 p8 C1 l1
  rw [← hy] at p2 p4 p6 p7 p8 C1 l2
  have SX := Lib.hid (fun A c w hs => sum_any A x c w p1.sz hs (by omega))
  rw [sumM_of p3, p5] at SX
  have SY := Lib.hid (fun A c w hs => sum_any A y c w p2.sz hs (by omega))
  rw [sumM_of p4, p6, ← hS] at SY
  have CSX := Lib.hid (fun A c w hs => cs_any A x c w hs (by omega))
  have hnf : nf (x ++ y) = n := nf_eq (p1.append p2) n1 n2 fun t => by rw [inB_append]; exact (p7 t).symm
  have NR2 := Lib.hid (fun A c w hs => norm_any A (x ++ y) c w (p1.append p2) hs (by rw [List.length_append]; omega))
  rw [hnf] at NR2
  have SM1 := Lib.hid (fun A1 A2 c1 c2 w h1 h2 => same_any A1 A2 n c1 c2 w n1 h1 h2 (by omega))
  have XST := Lib.hid p1
  have YST := Lib.hid p2
  have SEP := Lib.hid p8
  clear hm hn hS hsm hmst n1 n2 n3 nl p1 p2 p3 p4 p5 p6 p7 p8 hx hy hnf
  go_enter Try.func8, Try.ntmps8
  have HB0 := Lib.hid (Below.refl w.heap.size w)
  go_wp2_with fail
  refine (LST.out).mono ?_
  rintro e W1 ⟨A1, c1, rfl, hs1, hc1, hm1, hb1, _⟩
  have M_1 := Lib.hid hs1
  have HB1 := Lib.hid (HB0.out.trans (Below.mono hb1 HB0.out.size))
  clear hb1
  go_wp2_with fail
  refine (NRM.out _ _ _ M_1.out).mono ?_
  rintro e W2 ⟨A2, c2, rfl, hs2, hc2, hm2, hb2⟩
  have N_2 := Lib.hid hs2
  have HB2 := Lib.hid (HB1.out.trans (Below.mono hb2 HB1.out.size))
  clear hb2
  go_wp2_with fail
  refine (SUM.out _ _ _ N_2.out).mono ?_
  rintro e w' ⟨rfl, rfl⟩
  go_wp2_with fail
  refine (PL1.out _).mono ?_
  rintro e w' ⟨rfl, rfl⟩
  go_wp2_with fail
  refine (CS.out _ _ _ N_2.out).mono ?_
  rintro e W3 ⟨A3, c3, rfl, hs3, hc3, hm3, hb3, _⟩
  have C_3 := Lib.hid hs3
  have N_3 := Lib.hid (N_2.out.on (Nat.le_refl _) hb3)
  have HB3 := Lib.hid (HB2.out.trans (Below.mono hb3 HB2.out.size))
  clear hb3
  go_wp2_with fail
  refine (C1.out _ _ _ C_3.out).mono ?_
  rintro e W4 ⟨A4, c4, A5, c5, rfl, hs4, hc4, hs5, hc5, hb4⟩
  have X_4 := Lib.hid hs4
  have Y_4 := Lib.hid hs5
  have N_4 := Lib.hid (N_3.out.on (Nat.le_refl _) hb4)
  have HB4 := Lib.hid (HB3.out.trans (Below.mono hb4 HB3.out.size))
  clear hb4
  go_wp2_with fail
  refine (SX.out _ _ _ X_4.out).mono ?_
  rintro e w' ⟨rfl, rfl⟩
  go_wp2_with fail
  refine (SY.out _ _ _ Y_4.out).mono ?_
  rintro e w' ⟨rfl, rfl⟩
  go_wp2_with fail
  refine (CSX.out _ _ _ X_4.out).mono ?_
  rintro e W5 ⟨Ac, cc, rfl, hsc, hcc, hmc, hb5, hmine⟩
  have HSY := Lib.hid (Y_4.out.on (Nat.le_refl _) hb5)
  have hszp := hb5.size
  go_wp2_with (at_builtin; refine wpList_append_mine rfl (.tmp 56) (.tmp 57) _ _ rfl W4.heap.size 22 i0 (.complex .f64 0 0) 1 16 hz1 hz2 rfl (by decide) _ _ _ rfl hmine _ y.length (y.map cv) rfl (Gives.slice Try.underlying32 hi hz0 (by rw [hz1]; exact HSY.out) (cv_one y)) (by simp only [maxLen]; omega) (by omega) hszp ?_; intro Aap cap W6 hmap hgap hb6 hatap hownap)
  have hbt := hb5.trans hb6
  have hapl : (x ++ y).length = x.length + y.length := List.length_append
  obtain ⟨Ax, cx, hvx, hcx, hmx, hsx⟩ := hmap.form
  injection hvx with hvx1 hvx2 hvx3
  subst hvx1; subst hvx3
  rw [← List.map_append] at hsx
  have HAP := Lib.hid hsx
  rw [← hapl] at HAP
  rw [← hapl]
  clear hapl hmap hgap hatap hownap hvx2 hsx hmine hszp
  have N_6 := Lib.hid (N_4.out.on (Nat.le_refl _) hbt)
  have X_6 := Lib.hid (X_4.out.on (Nat.le_refl _) hbt)
  have Y_6 := Lib.hid (Y_4.out.on (Nat.le_refl _) hbt)
  have HB6 := Lib.hid (HB4.out.trans (Below.mono hbt HB4.out.size))
  clear hbt hb5 hb6 hsc hcc hmc
  go_wp2_with fail
  refine (NR2.out _ _ _ HAP.out).mono ?_
  rintro e W7 ⟨A13, c13, rfl, hs13, hc13, hm13, hb7⟩
  have G_7 := Lib.hid hs13
  have N_7 := Lib.hid (N_6.out.on (Nat.le_refl _) hb7)
  have X_7 := Lib.hid (X_6.out.on (Nat.le_refl _) hb7)
  have Y_7 := Lib.hid (Y_6.out.on (Nat.le_refl _) hb7)
  have HB7 := Lib.hid (HB6.out.trans (Below.mono hb7 HB6.out.size))
  clear hb7
  go_wp2_with fail
  go_loopw [14] (fun iv wr => ∃ i : Nat, i ≤ x.length ∧ iv = .int .i64 (i : Int) ∧ Below W7.heap.size W7 wr) (fun iv _ => x.length - (intOf iv).toNat)
  case atStart => exact ⟨0, by omega, rfl, Below.refl _ _⟩
  case round =>
    obtain ⟨i, hix, rfl, hbel⟩ := hrel
    have HBI := Lib.hid hbel
    clear hbel
    by_cases hlt : i < x.length
    · have hltI : (i : Int) < (x.length : Int) := by omega
      have hi0' : (0 : Int) ≤ (i : Int) := by omega
      obtain ⟨p, hp⟩ : ∃ p, x[i]? = some p := ⟨_, List.getElem?_eq_getElem hlt⟩
      have HPM := Lib.hid (List.mem_of_getElem? hp)
      have HPST := Lib.hid (XST.out p HPM.out)
      obtain ⟨b1, o1, rfl, hbw1, hcc1⟩ := X_7.out.at (by omega) (by decide)
      have HCPW : Hid (W7.cell? ⟨b1, o1 + i, none⟩ = some (.complex .f64 (fz p.1) (fz p.2))) := Lib.hid (hcc1 i _ (by rw [List.getElem?_map, hp]; rfl))
      clear hp hcc1
      go_wp2_with fail
      go_loopw [15] (fun jv wr => ∃ j' : Nat, j' ≤ y.length ∧ jv = .int .i64 (j' : Int) ∧ Below W7.heap.size W7 wr) (fun jv _ => y.length - (intOf jv).toNat)
      case atStart => exact ⟨0, by omega, rfl, HBI.out⟩
      case round =>
        obtain ⟨j', hjy, rfl, hbel⟩ := hrel
        have HBR := Lib.hid hbel
        clear hbel
        by_cases hltj : j' < y.length
        · have hltjI : (j' : Int) < (y.length : Int) := by omega
          have hj0' : (0 : Int) ≤ (j' : Int) := by omega
          obtain ⟨q, hq⟩ : ∃ q, y[j']? = some q := ⟨_, List.getElem?_eq_getElem hltj⟩
          have hqm := List.mem_of_getElem? hq
          have hqst := YST.out q hqm
          have hsep := SEP.out p HPM.out q hqm
          have hpst := HPST.out
          have MT := Lib.hid (fun w => meet_none hpst hqst hsep w)
          have HGT : Hid ((FloatKind.f64.format.order (fz p.1) (fz q.1) == some .gt) = false) := Lib.hid (by rw [gtr_fz hpst.a.sm hqst.a.sm]; unfold St at hpst; simp; omega)
          have hA : ∃ b2 o2, A5 = some ⟨b2, o2, none⟩ ∧ b2 < W7.heap.size ∧ W7.cell? ⟨b2, o2 + j', none⟩ = some (.complex .f64 (fz q.1) (fz q.2)) := by
            obtain ⟨b2, o2, e, hbw2, hcc2⟩ := Y_7.out.at (by omega) (by decide)
            exact ⟨b2, o2, e, hbw2, hcc2 j' _ (by rw [List.getElem?_map, hq]; rfl)⟩
          obtain ⟨b2, o2, rfl, hbw2, hcq⟩ := hA
          have HCP := Lib.hid ((Below.cell HBR.out (p := ⟨b1, o1 + i, none⟩) hbw1).trans HCPW.out)
          have HCQ := Lib.hid ((Below.cell HBR.out (p := ⟨b2, o2 + j', none⟩) hbw2).trans hcq)
          have hb1 := Nat.lt_of_lt_of_le hbw1 HBR.out.size
          have hb2 := Nat.lt_of_lt_of_le hbw2 HBR.out.size
          clear hq hqm hqst hsep hpst hcq
          go_wp2_with fail
          refine wp_region_rely (by kernel_rfl) (fun d u w' => match d with
            | 74 => u = (.slice (some ⟨b1, o1, none⟩) x.length c4 : Value)
            | 75 => u = (.int .i64 (i : Int) : Value)
            | 76 => u = (.pointer (some ⟨b1, o1 + i, none⟩) : Value)
            | 77 => u = (.complex .f64 (fz p.1) (fz p.2) : Value)
            | 78 => u = (.slice (some ⟨b2, o2, none⟩) y.length c5 : Value)
            | 79 => u = (.int .i64 (j' : Int) : Value)
            | 80 => u = (.pointer (some ⟨b2, o2 + j', none⟩) : Value)
            | 81 => u = (.complex .f64 (fz q.1) (fz q.2) : Value)
            | 82 => u = (.complex .f64 0 0 : Value)
            | 83 => u = (.bool false : Value)
            | 84 => u = (.bool false : Value)
            | 85 => u = (.slice (some ⟨b1, o1, none⟩) x.length c4 : Value)
            | 86 => u = (.int .i64 (i : Int) : Value)
            | 87 => u = (.pointer (some ⟨b1, o1 + i, none⟩) : Value)
            | 88 => u = (.complex .f64 (fz p.1) (fz p.2) : Value)
            | 89 => u = (.float .f64 (fz p.1) : Value)
            | 90 => u = (.slice (some ⟨b2, o2, none⟩) y.length c5 : Value)
            | 91 => u = (.int .i64 (j' : Int) : Value)
            | 92 => u = (.pointer (some ⟨b2, o2 + j', none⟩) : Value)
            | 93 => u = (.complex .f64 (fz q.1) (fz q.2) : Value)
            | 94 => u = (.float .f64 (fz q.1) : Value)
            | 95 => u = (.bool false : Value)
            | 96 => u = (.bool false : Value)
            | _ => True) 106 rfl (by decide +kernel) [96] ?_ ?_
          · refine AllSteps.cons (Step.move _ rfl rfl fun a w' hl => hl.old 9 rfl) ?_
            refine AllSteps.cons (Step.move _ rfl rfl fun a w' hl => hl.old 14 rfl) ?_
            refine AllSteps.cons (Step.plain rfl fun a w' K hl hK => ?_) ?_
            · obtain ⟨_, _, _, h74⟩ := hl.dep 0 74 rfl rfl
              replace h74 : a.eval (.tmp 74) = _ := h74
              obtain ⟨_, _, _, h75⟩ := hl.dep 1 75 rfl rfl
              replace h75 : a.eval (.tmp 75) = _ := h75
              refine wp_val (.pointer (some ⟨b1, o1 + i, none⟩)) ?_ (hK _ _ (Kept.refl _) rfl)
              clear hl hK
              generalize a.eval = ρ at *
              simp [execOp, go_sem, h74, h75]
              try (intro h; omega)
            refine AllSteps.cons (Step.plain rfl fun a w' K hl hK => ?_) ?_
            · obtain ⟨_, _, _, h76⟩ := hl.dep 2 76 rfl rfl
              replace h76 : a.eval (.tmp 76) = _ := h76
              have hcell := (Below.cell hl.kept (p := ⟨b1, o1 + i, none⟩) hb1).trans HCP.out
              refine wp_val (.complex .f64 (fz p.1) (fz p.2)) ?_ (hK _ _ (Kept.refl _) rfl)
              clear hl hK
              generalize a.eval = ρ at *
              simp [execOp, go_sem, h76, hcell]
            refine AllSteps.cons (Step.move _ rfl rfl fun a w' hl => hl.old 10 rfl) ?_
            refine AllSteps.cons (Step.move _ rfl rfl fun a w' hl => hl.old 15 rfl) ?_
            refine AllSteps.cons (Step.plain rfl fun a w' K hl hK => ?_) ?_
            · obtain ⟨_, _, _, h78⟩ := hl.dep 4 78 rfl rfl
              replace h78 : a.eval (.tmp 78) = _ := h78
              obtain ⟨_, _, _, h79⟩ := hl.dep 5 79 rfl rfl
              replace h79 : a.eval (.tmp 79) = _ := h79
              refine wp_val (.pointer (some ⟨b2, o2 + j', none⟩)) ?_ (hK _ _ (Kept.refl _) rfl)
              clear hl hK
              generalize a.eval = ρ at *
              simp [execOp, go_sem, h78, h79]
              try (intro h; omega)
            refine AllSteps.cons (Step.plain rfl fun a w' K hl hK => ?_) ?_
            · obtain ⟨_, _, _, h80⟩ := hl.dep 6 80 rfl rfl
              replace h80 : a.eval (.tmp 80) = _ := h80
              have hcell := (Below.cell hl.kept (p := ⟨b2, o2 + j', none⟩) hb2).trans HCQ.out
              refine wp_val (.complex .f64 (fz q.1) (fz q.2)) ?_ (hK _ _ (Kept.refl _) rfl)
              clear hl hK
              generalize a.eval = ρ at *
              simp [execOp, go_sem, h80, hcell]
            refine AllSteps.cons (Step.plain rfl fun a w' K hl hK => ?_) ?_
            · obtain ⟨_, _, _, h77⟩ := hl.dep 3 77 rfl rfl
              replace h77 : a.eval (.tmp 77) = _ := h77
              obtain ⟨_, _, _, h81⟩ := hl.dep 7 81 rfl rfl
              replace h81 : a.eval (.tmp 81) = _ := h81
              refine wp_call rfl Try.func18 rfl rfl #[.complex .f64 (fz p.1) (fz p.2), .complex .f64 (fz q.1) (fz q.2)] (by simp [h77, h81]) ?_
              refine (MT.out w').mono ?_
              rintro e w8 ⟨rfl, rfl⟩
              exact ⟨_, rfl, hK _ _ (Kept.refl _) rfl⟩
            refine AllSteps.cons (Step.plain rfl fun a w' K hl hK => ?_) ?_
            · obtain ⟨_, _, _, h82⟩ := hl.dep 8 82 rfl rfl
              replace h82 : a.eval (.tmp 82) = _ := h82
              have hconst : ∀ x, a.eval (.const x) = x := fun _ => rfl
              refine wp_val (.bool false) ?_ (hK _ _ (Kept.refl _) rfl)
              clear hl hK
              generalize a.eval = ρ at *
              simp [execOp, go_sem, h82, hconst, ord0]
            refine AllSteps.cons (Step.move _ rfl rfl fun a w' hl => let ⟨_, _, _, h⟩ := hl.dep 9 83 rfl rfl; h) ?_
            refine AllSteps.cons (Step.yes 10 false 84 rfl rfl rfl (fun _ _ h => h) fun a w' K hl hK => ?_) ?_
            · have h9 : a.eval (.tmp 9) = (.slice (some ⟨b1, o1, none⟩) x.length c4 : Value) := hl.old 9 rfl
              exact wp_val (a.eval (.tmp 9)) rfl (hK _ _ (Kept.refl _) h9)
            refine AllSteps.cons (Step.yes 10 false 84 rfl rfl rfl (fun _ _ h => h) fun a w' K hl hK => ?_) ?_
            · have h14 : a.eval (.tmp 14) = (.int .i64 (i : Int) : Value) := hl.old 14 rfl
              exact wp_val (a.eval (.tmp 14)) rfl (hK _ _ (Kept.refl _) h14)
            refine AllSteps.cons (Step.yes 10 false 84 rfl rfl rfl (fun _ _ h => h) fun a w' K hl hK => ?_) ?_
            · obtain ⟨_, _, _, h85⟩ := hl.dep 11 85 rfl rfl
              replace h85 : a.eval (.tmp 85) = _ := h85
              obtain ⟨_, _, _, h86⟩ := hl.dep 12 86 rfl rfl
              replace h86 : a.eval (.tmp 86) = _ := h86
              refine wp_val (.pointer (some ⟨b1, o1 + i, none⟩)) ?_ (hK _ _ (Kept.refl _) rfl)
              clear hl hK
              generalize a.eval = ρ at *
              simp [execOp, go_sem, h85, h86]
              try (intro h; omega)
            refine AllSteps.cons (Step.yes 10 false 84 rfl rfl rfl (fun _ _ h => h) fun a w' K hl hK => ?_) ?_
            · obtain ⟨_, _, _, h87⟩ := hl.dep 13 87 rfl rfl
              replace h87 : a.eval (.tmp 87) = _ := h87
              have hcell := (Below.cell hl.kept (p := ⟨b1, o1 + i, none⟩) hb1).trans HCP.out
              refine wp_val (.complex .f64 (fz p.1) (fz p.2)) ?_ (hK _ _ (Kept.refl _) rfl)
              clear hl hK
              generalize a.eval = ρ at *
              simp [execOp, go_sem, h87, hcell]
            refine AllSteps.cons (Step.yes 10 false 84 rfl rfl rfl (fun _ _ h => h) fun a w' K hl hK => ?_) ?_
            · obtain ⟨_, _, _, h88⟩ := hl.dep 14 88 rfl rfl
              replace h88 : a.eval (.tmp 88) = _ := h88
              refine wp_val (.float .f64 (fz p.1)) ?_ (hK _ _ (Kept.refl _) rfl)
              clear hl hK
              generalize a.eval = ρ at *
              simp [go_sem, h88]
            refine AllSteps.cons (Step.yes 10 false 84 rfl rfl rfl (fun _ _ h => h) fun a w' K hl hK => ?_) ?_
            · have h10 : a.eval (.tmp 10) = (.slice (some ⟨b2, o2, none⟩) y.length c5 : Value) := hl.old 10 rfl
              exact wp_val (a.eval (.tmp 10)) rfl (hK _ _ (Kept.refl _) h10)
            refine AllSteps.cons (Step.yes 10 false 84 rfl rfl rfl (fun _ _ h => h) fun a w' K hl hK => ?_) ?_
            · have h15 : a.eval (.tmp 15) = (.int .i64 (j' : Int) : Value) := hl.old 15 rfl
              exact wp_val (a.eval (.tmp 15)) rfl (hK _ _ (Kept.refl _) h15)
            refine AllSteps.cons (Step.yes 10 false 84 rfl rfl rfl (fun _ _ h => h) fun a w' K hl hK => ?_) ?_
            · obtain ⟨_, _, _, h90⟩ := hl.dep 16 90 rfl rfl
              replace h90 : a.eval (.tmp 90) = _ := h90
              obtain ⟨_, _, _, h91⟩ := hl.dep 17 91 rfl rfl
              replace h91 : a.eval (.tmp 91) = _ := h91
              refine wp_val (.pointer (some ⟨b2, o2 + j', none⟩)) ?_ (hK _ _ (Kept.refl _) rfl)
              clear hl hK
              generalize a.eval = ρ at *
              simp [execOp, go_sem, h90, h91]
              try (intro h; omega)
            refine AllSteps.cons (Step.yes 10 false 84 rfl rfl rfl (fun _ _ h => h) fun a w' K hl hK => ?_) ?_
            · obtain ⟨_, _, _, h92⟩ := hl.dep 18 92 rfl rfl
              replace h92 : a.eval (.tmp 92) = _ := h92
              have hcell := (Below.cell hl.kept (p := ⟨b2, o2 + j', none⟩) hb2).trans HCQ.out
              refine wp_val (.complex .f64 (fz q.1) (fz q.2)) ?_ (hK _ _ (Kept.refl _) rfl)
              clear hl hK
              generalize a.eval = ρ at *
              simp [execOp, go_sem, h92, hcell]
            refine AllSteps.cons (Step.yes 10 false 84 rfl rfl rfl (fun _ _ h => h) fun a w' K hl hK => ?_) ?_
            · obtain ⟨_, _, _, h93⟩ := hl.dep 19 93 rfl rfl
              replace h93 : a.eval (.tmp 93) = _ := h93
              refine wp_val (.float .f64 (fz q.1)) ?_ (hK _ _ (Kept.refl _) rfl)
              clear hl hK
              generalize a.eval = ρ at *
              simp [go_sem, h93]
            refine AllSteps.cons (Step.yes 10 false 84 rfl rfl rfl (fun _ _ h => h) fun a w' K hl hK => ?_) ?_
            · obtain ⟨_, _, _, h89⟩ := hl.dep 15 89 rfl rfl
              replace h89 : a.eval (.tmp 89) = _ := h89
              obtain ⟨_, _, _, h94⟩ := hl.dep 20 94 rfl rfl
              replace h94 : a.eval (.tmp 94) = _ := h94
              refine wp_val (.bool false) ?_ (hK _ _ (Kept.refl _) rfl)
              clear hl hK
              generalize a.eval = ρ at *
              simp [execOp, go_sem, h89, h94, HGT.out]
            refine AllSteps.cons (Step.plain rfl fun a w' K hl hK => ?_) ?_
            · obtain ⟨_, _, _, h84⟩ := hl.dep 10 84 rfl rfl
              replace h84 : a.eval (.tmp 84) = _ := h84
              obtain ⟨_, _, _, h95⟩ := hl.dep 21 95 rfl rfl
              replace h95 : a.eval (.tmp 95) = _ := h95
              exact wp_pick rfl false h84 (hK _ _ (Kept.refl _) h95)
            exact AllSteps.nil
          · intro f w9 hk9 hf
            obtain ⟨_, _, hres⟩ := hf 96 rfl rfl
            replace hres : f 96 = .bool false := hres
            simp only [Exit.then, fill, dsts, List.filterMap_cons, List.filterMap_nil, List.foldl_cons, List.foldl_nil, Act.put, hres, List.setIfInBounds_toArray, List.set_cons_succ, List.set_cons_zero]
            clear hf
            have HB9 := Lib.hid (HBR.out.trans (Below.mono hk9 HBR.out.size))
            clear hk9
            go_wp2_with fail
            go_roundw
            case rel => exact ⟨j' + 1, by omega, by go_num, HB9.out⟩
            case measure => simp [intOf]; omega
        · have hge : (y.length : Int) ≤ (j' : Int) := by omega
          go_wp2_with fail
          go_roundw
          case rel => exact ⟨i + 1, by omega, by go_num, HBR.out⟩
          case measure => simp [intOf]; omega
    · have hge : (x.length : Int) ≤ (i : Int) := by omega
      have HGG := Lib.hid (G_7.out.on (Nat.le_refl _) HBI.out)
      have HNN := Lib.hid (N_7.out.on (Nat.le_refl _) HBI.out)
      have HBJ := Lib.hid (HB7.out.trans (Below.mono HBI.out HB7.out.size))
      go_wp2_with fail
      refine (SM1.out _ _ _ _ _ HGG.out HNN.out).mono ?_
      rintro e w7 ⟨rfl, hb7⟩
      have HB7 := Lib.hid (HBJ.out.trans (Below.mono hb7 HBJ.out.size))
      clear hb7
      go_wp2_with fail
      refine (awake_any _).mono ?_
      rintro e w8 ⟨rfl, hb8⟩
      have HB8 := Lib.hid (HB7.out.trans (Below.mono hb8 HB7.out.size))
      go_wp2_with fail
      go_ret
      exact ⟨rfl, HB8.out⟩
end Go.Proofs.Ythdbllcpfajjmaa.Sp
