/-
  'SpanPlaces' walked: place by place: the list in order has just those of the list; in order they do not touch; twice is as once.
-/
import Derived.Test.YthdbllcpfajjmaaSpanA
import Derived.Test.YthdbllcpfajjmaaRely
namespace Go.Proofs.Ythdbllcpfajjmaa.Sp
open Fl Go.RowKit Ga Wd
set_option linter.unusedVariables false
theorem geq_fz {a b : Int} (ha : Sm a) (hb : Sm b) : (FloatKind.f64.format.order (fz a) (fz b) == some .gt || FloatKind.f64.format.order (fz a) (fz b) == some .eq) = decide (b ≤ a) := by
  rw [order_fz ha hb, cmp_gt, cmp_eq, ← Bool.decide_or]
  congr 1
  apply propext
  omega
theorem leq_fz {a b : Int} (ha : Sm a) (hb : Sm b) : (FloatKind.f64.format.order (fz a) (fz b) == some .lt || FloatKind.f64.format.order (fz a) (fz b) == some .eq) = decide (a ≤ b) := by
  rw [order_fz ha hb, cmp_lt, cmp_eq, ← Bool.decide_or]
  congr 1
  apply propext
  omega
theorem lss_fz {a b : Int} (ha : Sm a) (hb : Sm b) : (FloatKind.f64.format.order (fz a) (fz b) == some .lt) = decide (a < b) := by rw [order_fz ha hb, cmp_lt]
theorem has_in (l : Ls) (x : Int) : hasB l x = inB l x := by
  unfold hasB inB
  congr 1
  funext p
  unfold inX inP
  rw [Bool.decide_and]
theorem in_take {l : Ls} {k : Nat} {p : Int × Int} (h : l[k]? = some p) (x : Int) : inB (l.take (k + 1)) x = (inB (l.take k) x || inP p x) := by
  rw [List.take_add_one, h, inB_append]
  simp [inB]
theorem ord_adj : ∀ {l : Ls} {last : Int} {i : Nat} {p q : Int × Int}, AllSt l → ordM last l = true → l[i]? = some p → l[i + 1]? = some q → p.1 + p.2 < q.1
  | [], _, i, p, q, _, _, h, _ => by simp at h
  | x :: r, last, 0, p, q, hs, ho, h, k => by
    simp at h
    subst h
    have ho2 := (ordM_cons hs.head).1 ho
    exact ordM_low hs.tail ho2.2 q (List.mem_of_getElem? (by simpa using k))
  | x :: r, last, i + 1, p, q, hs, ho, h, k => by
    have ho2 := (ordM_cons hs.head).1 ho
    exact ord_adj (i := i) hs.tail ho2.2 (by simpa using h) (by simpa using k)
set_option maxRecDepth 100000 in
set_option maxHeartbeats 3200000 in
theorem places_walk (A : Option Addr) (l : List Int) (c : Nat) (w : World) (hs : Sl w w.heap.size 1 A l.length (l.map (Value.int .i64))) (hc : l.length ≤ c) (hk : l.length ≤ 17592186044416) (hb : ∀ x ∈ l, -9223372036854775808 ≤ x ∧ x ≤ 9223372036854775807)
     :
    Calls Try.prog 6 #[.slice A l.length c] w fun e w' => e = .returned (.bool true) ∧ Below w.heap.size w w' := by
  have LST := Lib.hid (list_any A l c w hs hk hb)
  obtain ⟨m, hm⟩ : ∃ m, m = listM l := ⟨_, rfl⟩
  have hmst := list_st l
  have hml := list_len l
  have hsb := nf_sum l
  have hcn := nf_cnt l 230 (by decide)
  rw [← hm] at LST hmst hml hsb hcn
  obtain ⟨n, hn⟩ : ∃ n, n = nf m := ⟨_, rfl⟩
  obtain ⟨n1, n2, n3⟩ := nf_spec hmst
  have nl := nf_len m
  rw [← hn] at n1 n2 n3 nl hsb hcn
  have hnl : n.length ≤ 20 := by omega
  have hsm := sumM_of n2
  have hs0 := sum_nonneg n1
  obtain ⟨S, hS⟩ : ∃ S, S = sumP n := ⟨_, rfl⟩
  have NRM := Lib.hid (fun A c w hs => norm_any A m c w hmst hs (by omega))
  rw [← hn] at NRM
  have SUM := Lib.hid (fun A c w hs => sum_any A n c w n1.sz hs (by omega))
  rw [hsm, ← hS] at SUM
  rw [← hS] at hs0 hsb hcn
  have CS := Lib.hid (fun A c w hs => cs_any A n c w hs (by omega))
  have CSM := Lib.hid (fun A c w hs => cs_any A m c w hs (by omega))
  have hnn : nf n = n := by rw [hn]; exact nf_nf hmst
  have NR2 := Lib.hid (fun A c w hs => norm_any A n c w n1 hs (by omega))
  rw [hnn] at NR2
  have SM1 := Lib.hid (fun A1 A2 c1 c2 w h1 h2 => same_any A1 A2 n c1 c2 w n1 h1 h2 (by omega))
  have HSN := Lib.hid (fun A c x w hs => has_any A n c n1.sz x w hs (by omega))
  have HSMq := Lib.hid (fun A c x w hs => has_any A m c hmst.sz x w hs (by omega))
  have HIN : Hid (∀ x, hasB n x = inB m x ∧ hasB m x = inB m x) := Lib.hid fun x => ⟨by rw [has_in, n3], has_in m x⟩
  have HADJ : Hid (∀ (i : Nat) (p q : Int × Int), n[i]? = some p → n[i + 1]? = some q → p.1 + p.2 < q.1) := Lib.hid fun i p q hp hq => ord_adj n1 n2 hp hq
  have MST := Lib.hid hmst
  have NST := Lib.hid n1
  have HCN := Lib.hid hcn
  have hcb : ∀ k, k ≤ 230 → cnt (inB m) k ≤ 230 := fun k hk => Nat.le_trans (cnt_le _ k) hk
  have HCB := Lib.hid hcb
  clear hm hn hS hsm hmst n1 n2 n3 nl hcn hcb hnn
  go_enter Try.func6, Try.ntmps6
  have HB0 := Lib.hid (Below.refl w.heap.size w)
  go_wp2_with fail
  refine (LST.out).mono ?_
  rintro e W1 ⟨A1, c1, rfl, hs1, hc1, hm1, hb1, _⟩
  have M_1 := Lib.hid hs1
  have HB1 := Lib.hid (HB0.out.trans (Below.mono hb1 HB0.out.size))
  clear hb1
  go_wp2_with fail
  refine (CSM.out _ _ _ M_1.out).mono ?_
  rintro e W2 ⟨A2, c2, rfl, hs2, hc2, hm2, hb2, _⟩
  have C_2 := Lib.hid hs2
  have M_2 := Lib.hid (M_1.out.on (Nat.le_refl _) hb2)
  have HB2 := Lib.hid (HB1.out.trans (Below.mono hb2 HB1.out.size))
  clear hb2
  go_wp2_with fail
  refine (NRM.out _ _ _ C_2.out).mono ?_
  rintro e W3 ⟨A4, c4, rfl, hs4, hc4, hm4, hb3⟩
  have N_3 := Lib.hid hs4
  have M_3 := Lib.hid (M_2.out.on (Nat.le_refl _) hb3)
  have HB3 := Lib.hid (HB2.out.trans (Below.mono hb3 HB2.out.size))
  clear hb3
  go_wp2_with fail
  refine (CS.out _ _ _ N_3.out).mono ?_
  rintro e W4 ⟨A5, c5, rfl, hs5, hc5, hm5, hb4, _⟩
  have C_4 := Lib.hid hs5
  have M_4 := Lib.hid (M_3.out.on (Nat.le_refl _) hb4)
  have N_4 := Lib.hid (N_3.out.on (Nat.le_refl _) hb4)
  have HB4 := Lib.hid (HB3.out.trans (Below.mono hb4 HB3.out.size))
  clear hb4
  go_wp2_with fail
  refine (NR2.out _ _ _ C_4.out).mono ?_
  rintro e W5 ⟨A6, c6, rfl, hs6, hc6, hm6, hb5⟩
  have G_5 := Lib.hid hs6
  have M_5 := Lib.hid (M_4.out.on (Nat.le_refl _) hb5)
  have N_5 := Lib.hid (N_4.out.on (Nat.le_refl _) hb5)
  have HB5 := Lib.hid (HB4.out.trans (Below.mono hb5 HB4.out.size))
  clear hb5
  go_wp2_with fail
  refine (SM1.out _ _ _ _ _ N_5.out G_5.out).mono ?_
  rintro e W6 ⟨rfl, hb6⟩
  have M_6 := Lib.hid (M_5.out.on (Nat.le_refl _) hb6)
  have N_6 := Lib.hid (N_5.out.on (Nat.le_refl _) hb6)
  have HB6 := Lib.hid (HB5.out.trans (Below.mono hb6 HB5.out.size))
  clear hb6
  go_wp2_with fail
  go_loopw [8, 9] (fun cv' av wr => ∃ pt : Nat, pt ≤ 230 ∧ av = .int .i64 (pt : Int) ∧ cv' = .int .i64 ((cnt (inB m) pt : Nat) : Int) ∧ Below W6.heap.size W6 wr) (fun _ av _ => 230 - (intOf av).toNat)
  case atStart => exact ⟨0, by omega, rfl, rfl, Below.refl _ _⟩
  case round =>
    obtain ⟨pt, ha, rfl, rfl, hbel⟩ := hrel
    have HBI := Lib.hid hbel
    have hcb := HCB.out pt ha
    clear hbel
    by_cases hlt : pt < 230
    · have hltI : (pt : Int) < 230 := by omega
      have HSTEP : Hid (cnt (inB m) (pt + 1) = cnt (inB m) pt + if inB m (pt : Int) then 1 else 0) := Lib.hid rfl
      generalize cnt (inB m) pt = ct at *
      go_wp2_with fail
      go_loopw [10, 11] (fun iv kv wr => ∃ k : Nat, k ≤ m.length ∧ kv = .int .i64 (k : Int) ∧ iv = .bool (inB (m.take k) (pt : Int)) ∧ Below W6.heap.size W6 wr) (fun _ kv _ => m.length - (intOf kv).toNat)
      case atStart => exact ⟨0, by omega, rfl, rfl, HBI.out⟩
      case round =>
        obtain ⟨k, hkm, rfl, rfl, hbel⟩ := hrel
        have HBR := Lib.hid hbel
        clear hbel
        by_cases hltk : k < m.length
        · have hltkI : (k : Int) < (m.length : Int) := by omega
          have hk0' : (0 : Int) ≤ (k : Int) := by omega
          obtain ⟨p, hp⟩ : ∃ p, m[k]? = some p := ⟨_, List.getElem?_eq_getElem hltk⟩
          have hpst := MST.out p (List.mem_of_getElem? hp)
          have htk := in_take hp (pt : Int)
          have hA : ∃ b1 o1, A1 = some ⟨b1, o1, none⟩ ∧ b1 < W6.heap.size ∧ W6.cell? ⟨b1, o1 + k, none⟩ = some (.complex .f64 (fz p.1) (fz p.2)) := by
            obtain ⟨b1, o1, e, hbw, hcc⟩ := M_6.out.at (by omega) (by decide)
            exact ⟨b1, o1, e, hbw, hcc k _ (by rw [List.getElem?_map, hp]; rfl)⟩
          obtain ⟨b1, o1, rfl, hbw1, hcp⟩ := hA
          have HCP := Lib.hid ((Below.cell HBR.out (p := ⟨b1, o1 + k, none⟩) hbw1).trans hcp)
          have hb1 := Nat.lt_of_lt_of_le hbw1 HBR.out.size
          have hsm' : Sm (pt : Int) := by unfold Sm; omega
          have hse : Sm (p.1 + p.2) := by unfold St at hpst; unfold Sm; omega
          have HTK := Lib.hid htk
          clear hp hcp htk
          cases hin : inB (m.take k) (pt : Int)
          · by_cases h1 : p.1 ≤ (pt : Int)
            · have E1 : Hid ((FloatKind.f64.format.order (floatOfInt .f64 (pt : Int)) (fz p.1) == some .gt || FloatKind.f64.format.order (floatOfInt .f64 (pt : Int)) (fz p.1) == some .eq) = true) := Lib.hid ((geq_fz hsm' hpst.a.sm).trans (decide_eq_true h1))
              have KA := Lib.hid (fun w => run_float_arith (P := Try.prog) w .add 29 .f64 (fz p.1) (fz p.2) _ (sum_fz hpst.a hpst.n hpst.1))
              by_cases h2 : (pt : Int) < p.1 + p.2
              · have E2 : Hid ((FloatKind.f64.format.order (floatOfInt .f64 (pt : Int)) (fz (p.1 + p.2)) == some .lt) = true) := Lib.hid ((lss_fz hsm' hse).trans (decide_eq_true h2))
                have HNX : Hid (inB (m.take (k + 1)) (pt : Int) = true) := Lib.hid (by rw [HTK.out, hin, inP_yes h1 h2]; rfl)
                clear hin HTK h1 h2 hpst hse hsm'
                go_wp2_with fail
                refine wp_region_rely (by kernel_rfl) (fun d u w' => match d with
                  | 10 => u = (.bool true : Value)
                  | 49 => u = (.bool false : Value)
                  | 50 => u = (.bool false : Value)
                  | 51 => u = (.int .i64 (pt : Int) : Value)
                  | 52 => u = (.float .f64 (floatOfInt .f64 (pt : Int)) : Value)
                  | 53 => u = (.slice (some ⟨b1, o1, none⟩) m.length c1 : Value)
                  | 54 => u = (.int .i64 (k : Int) : Value)
                  | 55 => u = (.pointer (some ⟨b1, o1 + k, none⟩) : Value)
                  | 56 => u = (.complex .f64 (fz p.1) (fz p.2) : Value)
                  | 57 => u = (.float .f64 (fz p.1) : Value)
                  | 58 => u = (.bool true : Value)
                  | 59 => u = (.bool true : Value)
                  | 60 => u = (.int .i64 (pt : Int) : Value)
                  | 61 => u = (.float .f64 (floatOfInt .f64 (pt : Int)) : Value)
                  | 62 => u = (.slice (some ⟨b1, o1, none⟩) m.length c1 : Value)
                  | 63 => u = (.int .i64 (k : Int) : Value)
                  | 64 => u = (.pointer (some ⟨b1, o1 + k, none⟩) : Value)
                  | 65 => u = (.complex .f64 (fz p.1) (fz p.2) : Value)
                  | 66 => u = (.float .f64 (fz p.1) : Value)
                  | 67 => u = (.slice (some ⟨b1, o1, none⟩) m.length c1 : Value)
                  | 68 => u = (.int .i64 (k : Int) : Value)
                  | 69 => u = (.pointer (some ⟨b1, o1 + k, none⟩) : Value)
                  | 70 => u = (.complex .f64 (fz p.1) (fz p.2) : Value)
                  | 71 => u = (.float .f64 (fz p.2) : Value)
                  | 72 => u = (.float .f64 (fz (p.1 + p.2)) : Value)
                  | 73 => u = (.bool true : Value)
                  | 74 => u = (.bool true : Value)
                  | 75 => u = (.bool true : Value)
                  | _ => True) 123 rfl (by decide +kernel) [10] ?_ ?_
                · refine AllSteps.cons (Step.move _ rfl rfl fun a w' hl => hl.early 27 10 rfl rfl) ?_
                  refine AllSteps.cons (Step.move _ rfl rfl fun a w' hl => let ⟨_, _, _, h⟩ := hl.dep 0 49 rfl rfl; h) ?_
                  refine AllSteps.cons (Step.yes 1 false 50 rfl rfl rfl (fun _ _ h => h) fun a w' K hl hK => ?_) ?_
                  · have h9 : a.eval (.tmp 9) = (.int .i64 (pt : Int) : Value) := hl.old 9 rfl
                    exact wp_val (a.eval (.tmp 9)) rfl (hK _ _ (Kept.refl _) h9)
                  refine AllSteps.cons (Step.yes 1 false 50 rfl rfl rfl (fun _ _ h => h) fun a w' K hl hK => ?_) ?_
                  · obtain ⟨_, _, _, h51⟩ := hl.dep 2 51 rfl rfl
                    replace h51 : a.eval (.tmp 51) = _ := h51
                    refine wp_val (.float .f64 (floatOfInt .f64 (pt : Int))) ?_ (hK _ _ (Kept.refl _) rfl)
                    clear hl hK
                    generalize a.eval = ρ at *
                    simp [execOp, go_sem, h51]
                  refine AllSteps.cons (Step.yes 1 false 50 rfl rfl rfl (fun _ _ h => h) fun a w' K hl hK => ?_) ?_
                  · have h3 : a.eval (.tmp 3) = (.slice (some ⟨b1, o1, none⟩) m.length c1 : Value) := hl.old 3 rfl
                    exact wp_val (a.eval (.tmp 3)) rfl (hK _ _ (Kept.refl _) h3)
                  refine AllSteps.cons (Step.yes 1 false 50 rfl rfl rfl (fun _ _ h => h) fun a w' K hl hK => ?_) ?_
                  · have h11 : a.eval (.tmp 11) = (.int .i64 (k : Int) : Value) := hl.old 11 rfl
                    exact wp_val (a.eval (.tmp 11)) rfl (hK _ _ (Kept.refl _) h11)
                  refine AllSteps.cons (Step.yes 1 false 50 rfl rfl rfl (fun _ _ h => h) fun a w' K hl hK => ?_) ?_
                  · obtain ⟨_, _, _, h53⟩ := hl.dep 4 53 rfl rfl
                    replace h53 : a.eval (.tmp 53) = _ := h53
                    obtain ⟨_, _, _, h54⟩ := hl.dep 5 54 rfl rfl
                    replace h54 : a.eval (.tmp 54) = _ := h54
                    refine wp_val (.pointer (some ⟨b1, o1 + k, none⟩)) ?_ (hK _ _ (Kept.refl _) rfl)
                    clear hl hK
                    generalize a.eval = ρ at *
                    simp [execOp, go_sem, h53, h54]
                    try (intro h; omega)
                  refine AllSteps.cons (Step.yes 1 false 50 rfl rfl rfl (fun _ _ h => h) fun a w' K hl hK => ?_) ?_
                  · obtain ⟨_, _, _, h55⟩ := hl.dep 6 55 rfl rfl
                    replace h55 : a.eval (.tmp 55) = _ := h55
                    have hcell := (Below.cell hl.kept (p := ⟨b1, o1 + k, none⟩) hb1).trans HCP.out
                    refine wp_val (.complex .f64 (fz p.1) (fz p.2)) ?_ (hK _ _ (Kept.refl _) rfl)
                    clear hl hK
                    generalize a.eval = ρ at *
                    simp [execOp, go_sem, h55, hcell]
                  refine AllSteps.cons (Step.yes 1 false 50 rfl rfl rfl (fun _ _ h => h) fun a w' K hl hK => ?_) ?_
                  · obtain ⟨_, _, _, h56⟩ := hl.dep 7 56 rfl rfl
                    replace h56 : a.eval (.tmp 56) = _ := h56
                    refine wp_val (.float .f64 (fz p.1)) ?_ (hK _ _ (Kept.refl _) rfl)
                    clear hl hK
                    generalize a.eval = ρ at *
                    simp [go_sem, h56]
                  refine AllSteps.cons (Step.yes 1 false 50 rfl rfl rfl (fun _ _ h => h) fun a w' K hl hK => ?_) ?_
                  · obtain ⟨_, _, _, h52⟩ := hl.dep 3 52 rfl rfl
                    replace h52 : a.eval (.tmp 52) = _ := h52
                    obtain ⟨_, _, _, h57⟩ := hl.dep 8 57 rfl rfl
                    replace h57 : a.eval (.tmp 57) = _ := h57
                    refine wp_val (.bool true) ?_ (hK _ _ (Kept.refl _) rfl)
                    clear hl hK
                    generalize a.eval = ρ at *
                    simp [execOp, go_sem, h52, h57, E1.out]
                  refine AllSteps.cons (Step.yes 1 false 50 rfl rfl rfl (fun _ _ h => h) fun a w' K hl hK => ?_) ?_
                  · obtain ⟨_, _, _, h58⟩ := hl.dep 9 58 rfl rfl
                    replace h58 : a.eval (.tmp 58) = _ := h58
                    exact wp_val (a.eval (.tmp 58)) rfl (hK _ _ (Kept.refl _) h58)
                  refine AllSteps.cons (Step.yes 10 true 59 rfl rfl rfl (fun _ _ h => h) fun a w' K hl hK => ?_) ?_
                  · have h9 : a.eval (.tmp 9) = (.int .i64 (pt : Int) : Value) := hl.old 9 rfl
                    exact wp_val (a.eval (.tmp 9)) rfl (hK _ _ (Kept.refl _) h9)
                  refine AllSteps.cons (Step.yes 10 true 59 rfl rfl rfl (fun _ _ h => h) fun a w' K hl hK => ?_) ?_
                  · obtain ⟨_, _, _, h60⟩ := hl.dep 11 60 rfl rfl
                    replace h60 : a.eval (.tmp 60) = _ := h60
                    refine wp_val (.float .f64 (floatOfInt .f64 (pt : Int))) ?_ (hK _ _ (Kept.refl _) rfl)
                    clear hl hK
                    generalize a.eval = ρ at *
                    simp [execOp, go_sem, h60]
                  refine AllSteps.cons (Step.yes 10 true 59 rfl rfl rfl (fun _ _ h => h) fun a w' K hl hK => ?_) ?_
                  · have h3 : a.eval (.tmp 3) = (.slice (some ⟨b1, o1, none⟩) m.length c1 : Value) := hl.old 3 rfl
                    exact wp_val (a.eval (.tmp 3)) rfl (hK _ _ (Kept.refl _) h3)
                  refine AllSteps.cons (Step.yes 10 true 59 rfl rfl rfl (fun _ _ h => h) fun a w' K hl hK => ?_) ?_
                  · have h11 : a.eval (.tmp 11) = (.int .i64 (k : Int) : Value) := hl.old 11 rfl
                    exact wp_val (a.eval (.tmp 11)) rfl (hK _ _ (Kept.refl _) h11)
                  refine AllSteps.cons (Step.yes 10 true 59 rfl rfl rfl (fun _ _ h => h) fun a w' K hl hK => ?_) ?_
                  · obtain ⟨_, _, _, h62⟩ := hl.dep 13 62 rfl rfl
                    replace h62 : a.eval (.tmp 62) = _ := h62
                    obtain ⟨_, _, _, h63⟩ := hl.dep 14 63 rfl rfl
                    replace h63 : a.eval (.tmp 63) = _ := h63
                    refine wp_val (.pointer (some ⟨b1, o1 + k, none⟩)) ?_ (hK _ _ (Kept.refl _) rfl)
                    clear hl hK
                    generalize a.eval = ρ at *
                    simp [execOp, go_sem, h62, h63]
                    try (intro h; omega)
                  refine AllSteps.cons (Step.yes 10 true 59 rfl rfl rfl (fun _ _ h => h) fun a w' K hl hK => ?_) ?_
                  · obtain ⟨_, _, _, h64⟩ := hl.dep 15 64 rfl rfl
                    replace h64 : a.eval (.tmp 64) = _ := h64
                    have hcell := (Below.cell hl.kept (p := ⟨b1, o1 + k, none⟩) hb1).trans HCP.out
                    refine wp_val (.complex .f64 (fz p.1) (fz p.2)) ?_ (hK _ _ (Kept.refl _) rfl)
                    clear hl hK
                    generalize a.eval = ρ at *
                    simp [execOp, go_sem, h64, hcell]
                  refine AllSteps.cons (Step.yes 10 true 59 rfl rfl rfl (fun _ _ h => h) fun a w' K hl hK => ?_) ?_
                  · obtain ⟨_, _, _, h65⟩ := hl.dep 16 65 rfl rfl
                    replace h65 : a.eval (.tmp 65) = _ := h65
                    refine wp_val (.float .f64 (fz p.1)) ?_ (hK _ _ (Kept.refl _) rfl)
                    clear hl hK
                    generalize a.eval = ρ at *
                    simp [go_sem, h65]
                  refine AllSteps.cons (Step.yes 10 true 59 rfl rfl rfl (fun _ _ h => h) fun a w' K hl hK => ?_) ?_
                  · have h3 : a.eval (.tmp 3) = (.slice (some ⟨b1, o1, none⟩) m.length c1 : Value) := hl.old 3 rfl
                    exact wp_val (a.eval (.tmp 3)) rfl (hK _ _ (Kept.refl _) h3)
                  refine AllSteps.cons (Step.yes 10 true 59 rfl rfl rfl (fun _ _ h => h) fun a w' K hl hK => ?_) ?_
                  · have h11 : a.eval (.tmp 11) = (.int .i64 (k : Int) : Value) := hl.old 11 rfl
                    exact wp_val (a.eval (.tmp 11)) rfl (hK _ _ (Kept.refl _) h11)
                  refine AllSteps.cons (Step.yes 10 true 59 rfl rfl rfl (fun _ _ h => h) fun a w' K hl hK => ?_) ?_
                  · obtain ⟨_, _, _, h67⟩ := hl.dep 18 67 rfl rfl
                    replace h67 : a.eval (.tmp 67) = _ := h67
                    obtain ⟨_, _, _, h68⟩ := hl.dep 19 68 rfl rfl
                    replace h68 : a.eval (.tmp 68) = _ := h68
                    refine wp_val (.pointer (some ⟨b1, o1 + k, none⟩)) ?_ (hK _ _ (Kept.refl _) rfl)
                    clear hl hK
                    generalize a.eval = ρ at *
                    simp [execOp, go_sem, h67, h68]
                    try (intro h; omega)
                  refine AllSteps.cons (Step.yes 10 true 59 rfl rfl rfl (fun _ _ h => h) fun a w' K hl hK => ?_) ?_
                  · obtain ⟨_, _, _, h69⟩ := hl.dep 20 69 rfl rfl
                    replace h69 : a.eval (.tmp 69) = _ := h69
                    have hcell := (Below.cell hl.kept (p := ⟨b1, o1 + k, none⟩) hb1).trans HCP.out
                    refine wp_val (.complex .f64 (fz p.1) (fz p.2)) ?_ (hK _ _ (Kept.refl _) rfl)
                    clear hl hK
                    generalize a.eval = ρ at *
                    simp [execOp, go_sem, h69, hcell]
                  refine AllSteps.cons (Step.yes 10 true 59 rfl rfl rfl (fun _ _ h => h) fun a w' K hl hK => ?_) ?_
                  · obtain ⟨_, _, _, h70⟩ := hl.dep 21 70 rfl rfl
                    replace h70 : a.eval (.tmp 70) = _ := h70
                    refine wp_val (.float .f64 (fz p.2)) ?_ (hK _ _ (Kept.refl _) rfl)
                    clear hl hK
                    generalize a.eval = ρ at *
                    simp [go_sem, h70]
                  refine AllSteps.cons (Step.yes 10 true 59 rfl rfl rfl (fun _ _ h => h) fun a w' K hl hK => ?_) ?_
                  · obtain ⟨_, _, _, h66⟩ := hl.dep 17 66 rfl rfl
                    replace h66 : a.eval (.tmp 66) = _ := h66
                    obtain ⟨_, _, _, h71⟩ := hl.dep 22 71 rfl rfl
                    replace h71 : a.eval (.tmp 71) = _ := h71
                    have hadd := KA.out
                    refine wp_val (.float .f64 (fz (p.1 + p.2))) ?_ (hK _ _ (Kept.refl _) rfl)
                    clear hl hK
                    generalize a.eval = ρ at *
                    simp [execOp, go_sem, h66, h71, hadd]
                  refine AllSteps.cons (Step.yes 10 true 59 rfl rfl rfl (fun _ _ h => h) fun a w' K hl hK => ?_) ?_
                  · obtain ⟨_, _, _, h61⟩ := hl.dep 12 61 rfl rfl
                    replace h61 : a.eval (.tmp 61) = _ := h61
                    obtain ⟨_, _, _, h72⟩ := hl.dep 23 72 rfl rfl
                    replace h72 : a.eval (.tmp 72) = _ := h72
                    refine wp_val (.bool true) ?_ (hK _ _ (Kept.refl _) rfl)
                    clear hl hK
                    generalize a.eval = ρ at *
                    simp [execOp, go_sem, h61, h72, E2.out]
                  refine AllSteps.cons (Step.yes 1 false 50 rfl rfl rfl (fun _ _ h => h) fun a w' K hl hK => ?_) ?_
                  · obtain ⟨_, _, _, h59⟩ := hl.dep 10 59 rfl rfl
                    replace h59 : a.eval (.tmp 59) = _ := h59
                    obtain ⟨_, _, _, h73⟩ := hl.dep 24 73 rfl rfl
                    replace h73 : a.eval (.tmp 73) = _ := h73
                    exact wp_pick rfl true h59 (hK _ _ (Kept.refl _) h73)
                  refine AllSteps.cons (Step.plain rfl fun a w' K hl hK => ?_) ?_
                  · obtain ⟨_, _, _, h50⟩ := hl.dep 1 50 rfl rfl
                    replace h50 : a.eval (.tmp 50) = _ := h50
                    obtain ⟨_, _, _, h74⟩ := hl.dep 25 74 rfl rfl
                    replace h74 : a.eval (.tmp 74) = _ := h74
                    exact wp_pick rfl false h50 (hK _ _ (Kept.refl _) h74)
                  refine AllSteps.cons (Step.assign _ rfl rfl fun a w' hl => let ⟨_, _, _, h⟩ := hl.dep 26 75 rfl rfl; h) ?_
                  exact AllSteps.nil
                · intro f w9 hk9 hf
                  obtain ⟨_, _, hres⟩ := hf 10 rfl rfl
                  replace hres : f 10 = .bool true := hres
                  simp only [fill, dsts, List.filterMap_cons, List.filterMap_nil, List.foldl_cons, List.foldl_nil, Act.put, hres, List.setIfInBounds_toArray, List.set_cons_succ, List.set_cons_zero]
                  clear hf
                  have HB9 := Lib.hid (HBR.out.trans (Below.mono hk9 HBR.out.size))
                  clear hk9
                  go_wp2_with fail
                  go_roundw
                  case rel => exact ⟨k + 1, by omega, by go_num, by rw [HNX.out], HB9.out⟩
                  case measure => simp [intOf]; omega
              · have E2 : Hid ((FloatKind.f64.format.order (floatOfInt .f64 (pt : Int)) (fz (p.1 + p.2)) == some .lt) = false) := Lib.hid ((lss_fz hsm' hse).trans (decide_eq_false h2))
                have HNX : Hid (inB (m.take (k + 1)) (pt : Int) = false) := Lib.hid (by rw [HTK.out, hin, inP_hi (by omega)]; rfl)
                clear hin HTK h1 h2 hpst hse hsm'
                go_wp2_with fail
                refine wp_region_rely (by kernel_rfl) (fun d u w' => match d with
                  | 10 => u = (.bool false : Value)
                  | 49 => u = (.bool false : Value)
                  | 50 => u = (.bool false : Value)
                  | 51 => u = (.int .i64 (pt : Int) : Value)
                  | 52 => u = (.float .f64 (floatOfInt .f64 (pt : Int)) : Value)
                  | 53 => u = (.slice (some ⟨b1, o1, none⟩) m.length c1 : Value)
                  | 54 => u = (.int .i64 (k : Int) : Value)
                  | 55 => u = (.pointer (some ⟨b1, o1 + k, none⟩) : Value)
                  | 56 => u = (.complex .f64 (fz p.1) (fz p.2) : Value)
                  | 57 => u = (.float .f64 (fz p.1) : Value)
                  | 58 => u = (.bool true : Value)
                  | 59 => u = (.bool true : Value)
                  | 60 => u = (.int .i64 (pt : Int) : Value)
                  | 61 => u = (.float .f64 (floatOfInt .f64 (pt : Int)) : Value)
                  | 62 => u = (.slice (some ⟨b1, o1, none⟩) m.length c1 : Value)
                  | 63 => u = (.int .i64 (k : Int) : Value)
                  | 64 => u = (.pointer (some ⟨b1, o1 + k, none⟩) : Value)
                  | 65 => u = (.complex .f64 (fz p.1) (fz p.2) : Value)
                  | 66 => u = (.float .f64 (fz p.1) : Value)
                  | 67 => u = (.slice (some ⟨b1, o1, none⟩) m.length c1 : Value)
                  | 68 => u = (.int .i64 (k : Int) : Value)
                  | 69 => u = (.pointer (some ⟨b1, o1 + k, none⟩) : Value)
                  | 70 => u = (.complex .f64 (fz p.1) (fz p.2) : Value)
                  | 71 => u = (.float .f64 (fz p.2) : Value)
                  | 72 => u = (.float .f64 (fz (p.1 + p.2)) : Value)
                  | 73 => u = (.bool false : Value)
                  | 74 => u = (.bool false : Value)
                  | 75 => u = (.bool false : Value)
                  | _ => True) 123 rfl (by decide +kernel) [10] ?_ ?_
                · refine AllSteps.cons (Step.move _ rfl rfl fun a w' hl => hl.early 27 10 rfl rfl) ?_
                  refine AllSteps.cons (Step.move _ rfl rfl fun a w' hl => let ⟨_, _, _, h⟩ := hl.dep 0 49 rfl rfl; h) ?_
                  refine AllSteps.cons (Step.yes 1 false 50 rfl rfl rfl (fun _ _ h => h) fun a w' K hl hK => ?_) ?_
                  · have h9 : a.eval (.tmp 9) = (.int .i64 (pt : Int) : Value) := hl.old 9 rfl
                    exact wp_val (a.eval (.tmp 9)) rfl (hK _ _ (Kept.refl _) h9)
                  refine AllSteps.cons (Step.yes 1 false 50 rfl rfl rfl (fun _ _ h => h) fun a w' K hl hK => ?_) ?_
                  · obtain ⟨_, _, _, h51⟩ := hl.dep 2 51 rfl rfl
                    replace h51 : a.eval (.tmp 51) = _ := h51
                    refine wp_val (.float .f64 (floatOfInt .f64 (pt : Int))) ?_ (hK _ _ (Kept.refl _) rfl)
                    clear hl hK
                    generalize a.eval = ρ at *
                    simp [execOp, go_sem, h51]
                  refine AllSteps.cons (Step.yes 1 false 50 rfl rfl rfl (fun _ _ h => h) fun a w' K hl hK => ?_) ?_
                  · have h3 : a.eval (.tmp 3) = (.slice (some ⟨b1, o1, none⟩) m.length c1 : Value) := hl.old 3 rfl
                    exact wp_val (a.eval (.tmp 3)) rfl (hK _ _ (Kept.refl _) h3)
                  refine AllSteps.cons (Step.yes 1 false 50 rfl rfl rfl (fun _ _ h => h) fun a w' K hl hK => ?_) ?_
                  · have h11 : a.eval (.tmp 11) = (.int .i64 (k : Int) : Value) := hl.old 11 rfl
                    exact wp_val (a.eval (.tmp 11)) rfl (hK _ _ (Kept.refl _) h11)
                  refine AllSteps.cons (Step.yes 1 false 50 rfl rfl rfl (fun _ _ h => h) fun a w' K hl hK => ?_) ?_
                  · obtain ⟨_, _, _, h53⟩ := hl.dep 4 53 rfl rfl
                    replace h53 : a.eval (.tmp 53) = _ := h53
                    obtain ⟨_, _, _, h54⟩ := hl.dep 5 54 rfl rfl
                    replace h54 : a.eval (.tmp 54) = _ := h54
                    refine wp_val (.pointer (some ⟨b1, o1 + k, none⟩)) ?_ (hK _ _ (Kept.refl _) rfl)
                    clear hl hK
                    generalize a.eval = ρ at *
                    simp [execOp, go_sem, h53, h54]
                    try (intro h; omega)
                  refine AllSteps.cons (Step.yes 1 false 50 rfl rfl rfl (fun _ _ h => h) fun a w' K hl hK => ?_) ?_
                  · obtain ⟨_, _, _, h55⟩ := hl.dep 6 55 rfl rfl
                    replace h55 : a.eval (.tmp 55) = _ := h55
                    have hcell := (Below.cell hl.kept (p := ⟨b1, o1 + k, none⟩) hb1).trans HCP.out
                    refine wp_val (.complex .f64 (fz p.1) (fz p.2)) ?_ (hK _ _ (Kept.refl _) rfl)
                    clear hl hK
                    generalize a.eval = ρ at *
                    simp [execOp, go_sem, h55, hcell]
                  refine AllSteps.cons (Step.yes 1 false 50 rfl rfl rfl (fun _ _ h => h) fun a w' K hl hK => ?_) ?_
                  · obtain ⟨_, _, _, h56⟩ := hl.dep 7 56 rfl rfl
                    replace h56 : a.eval (.tmp 56) = _ := h56
                    refine wp_val (.float .f64 (fz p.1)) ?_ (hK _ _ (Kept.refl _) rfl)
                    clear hl hK
                    generalize a.eval = ρ at *
                    simp [go_sem, h56]
                  refine AllSteps.cons (Step.yes 1 false 50 rfl rfl rfl (fun _ _ h => h) fun a w' K hl hK => ?_) ?_
                  · obtain ⟨_, _, _, h52⟩ := hl.dep 3 52 rfl rfl
                    replace h52 : a.eval (.tmp 52) = _ := h52
                    obtain ⟨_, _, _, h57⟩ := hl.dep 8 57 rfl rfl
                    replace h57 : a.eval (.tmp 57) = _ := h57
                    refine wp_val (.bool true) ?_ (hK _ _ (Kept.refl _) rfl)
                    clear hl hK
                    generalize a.eval = ρ at *
                    simp [execOp, go_sem, h52, h57, E1.out]
                  refine AllSteps.cons (Step.yes 1 false 50 rfl rfl rfl (fun _ _ h => h) fun a w' K hl hK => ?_) ?_
                  · obtain ⟨_, _, _, h58⟩ := hl.dep 9 58 rfl rfl
                    replace h58 : a.eval (.tmp 58) = _ := h58
                    exact wp_val (a.eval (.tmp 58)) rfl (hK _ _ (Kept.refl _) h58)
                  refine AllSteps.cons (Step.yes 10 true 59 rfl rfl rfl (fun _ _ h => h) fun a w' K hl hK => ?_) ?_
                  · have h9 : a.eval (.tmp 9) = (.int .i64 (pt : Int) : Value) := hl.old 9 rfl
                    exact wp_val (a.eval (.tmp 9)) rfl (hK _ _ (Kept.refl _) h9)
                  refine AllSteps.cons (Step.yes 10 true 59 rfl rfl rfl (fun _ _ h => h) fun a w' K hl hK => ?_) ?_
                  · obtain ⟨_, _, _, h60⟩ := hl.dep 11 60 rfl rfl
                    replace h60 : a.eval (.tmp 60) = _ := h60
                    refine wp_val (.float .f64 (floatOfInt .f64 (pt : Int))) ?_ (hK _ _ (Kept.refl _) rfl)
                    clear hl hK
                    generalize a.eval = ρ at *
                    simp [execOp, go_sem, h60]
                  refine AllSteps.cons (Step.yes 10 true 59 rfl rfl rfl (fun _ _ h => h) fun a w' K hl hK => ?_) ?_
                  · have h3 : a.eval (.tmp 3) = (.slice (some ⟨b1, o1, none⟩) m.length c1 : Value) := hl.old 3 rfl
                    exact wp_val (a.eval (.tmp 3)) rfl (hK _ _ (Kept.refl _) h3)
                  refine AllSteps.cons (Step.yes 10 true 59 rfl rfl rfl (fun _ _ h => h) fun a w' K hl hK => ?_) ?_
                  · have h11 : a.eval (.tmp 11) = (.int .i64 (k : Int) : Value) := hl.old 11 rfl
                    exact wp_val (a.eval (.tmp 11)) rfl (hK _ _ (Kept.refl _) h11)
                  refine AllSteps.cons (Step.yes 10 true 59 rfl rfl rfl (fun _ _ h => h) fun a w' K hl hK => ?_) ?_
                  · obtain ⟨_, _, _, h62⟩ := hl.dep 13 62 rfl rfl
                    replace h62 : a.eval (.tmp 62) = _ := h62
                    obtain ⟨_, _, _, h63⟩ := hl.dep 14 63 rfl rfl
                    replace h63 : a.eval (.tmp 63) = _ := h63
                    refine wp_val (.pointer (some ⟨b1, o1 + k, none⟩)) ?_ (hK _ _ (Kept.refl _) rfl)
                    clear hl hK
                    generalize a.eval = ρ at *
                    simp [execOp, go_sem, h62, h63]
                    try (intro h; omega)
                  refine AllSteps.cons (Step.yes 10 true 59 rfl rfl rfl (fun _ _ h => h) fun a w' K hl hK => ?_) ?_
                  · obtain ⟨_, _, _, h64⟩ := hl.dep 15 64 rfl rfl
                    replace h64 : a.eval (.tmp 64) = _ := h64
                    have hcell := (Below.cell hl.kept (p := ⟨b1, o1 + k, none⟩) hb1).trans HCP.out
                    refine wp_val (.complex .f64 (fz p.1) (fz p.2)) ?_ (hK _ _ (Kept.refl _) rfl)
                    clear hl hK
                    generalize a.eval = ρ at *
                    simp [execOp, go_sem, h64, hcell]
                  refine AllSteps.cons (Step.yes 10 true 59 rfl rfl rfl (fun _ _ h => h) fun a w' K hl hK => ?_) ?_
                  · obtain ⟨_, _, _, h65⟩ := hl.dep 16 65 rfl rfl
                    replace h65 : a.eval (.tmp 65) = _ := h65
                    refine wp_val (.float .f64 (fz p.1)) ?_ (hK _ _ (Kept.refl _) rfl)
                    clear hl hK
                    generalize a.eval = ρ at *
                    simp [go_sem, h65]
                  refine AllSteps.cons (Step.yes 10 true 59 rfl rfl rfl (fun _ _ h => h) fun a w' K hl hK => ?_) ?_
                  · have h3 : a.eval (.tmp 3) = (.slice (some ⟨b1, o1, none⟩) m.length c1 : Value) := hl.old 3 rfl
                    exact wp_val (a.eval (.tmp 3)) rfl (hK _ _ (Kept.refl _) h3)
                  refine AllSteps.cons (Step.yes 10 true 59 rfl rfl rfl (fun _ _ h => h) fun a w' K hl hK => ?_) ?_
                  · have h11 : a.eval (.tmp 11) = (.int .i64 (k : Int) : Value) := hl.old 11 rfl
                    exact wp_val (a.eval (.tmp 11)) rfl (hK _ _ (Kept.refl _) h11)
                  refine AllSteps.cons (Step.yes 10 true 59 rfl rfl rfl (fun _ _ h => h) fun a w' K hl hK => ?_) ?_
                  · obtain ⟨_, _, _, h67⟩ := hl.dep 18 67 rfl rfl
                    replace h67 : a.eval (.tmp 67) = _ := h67
                    obtain ⟨_, _, _, h68⟩ := hl.dep 19 68 rfl rfl
                    replace h68 : a.eval (.tmp 68) = _ := h68
                    refine wp_val (.pointer (some ⟨b1, o1 + k, none⟩)) ?_ (hK _ _ (Kept.refl _) rfl)
                    clear hl hK
                    generalize a.eval = ρ at *
                    simp [execOp, go_sem, h67, h68]
                    try (intro h; omega)
                  refine AllSteps.cons (Step.yes 10 true 59 rfl rfl rfl (fun _ _ h => h) fun a w' K hl hK => ?_) ?_
                  · obtain ⟨_, _, _, h69⟩ := hl.dep 20 69 rfl rfl
                    replace h69 : a.eval (.tmp 69) = _ := h69
                    have hcell := (Below.cell hl.kept (p := ⟨b1, o1 + k, none⟩) hb1).trans HCP.out
                    refine wp_val (.complex .f64 (fz p.1) (fz p.2)) ?_ (hK _ _ (Kept.refl _) rfl)
                    clear hl hK
                    generalize a.eval = ρ at *
                    simp [execOp, go_sem, h69, hcell]
                  refine AllSteps.cons (Step.yes 10 true 59 rfl rfl rfl (fun _ _ h => h) fun a w' K hl hK => ?_) ?_
                  · obtain ⟨_, _, _, h70⟩ := hl.dep 21 70 rfl rfl
                    replace h70 : a.eval (.tmp 70) = _ := h70
                    refine wp_val (.float .f64 (fz p.2)) ?_ (hK _ _ (Kept.refl _) rfl)
                    clear hl hK
                    generalize a.eval = ρ at *
                    simp [go_sem, h70]
                  refine AllSteps.cons (Step.yes 10 true 59 rfl rfl rfl (fun _ _ h => h) fun a w' K hl hK => ?_) ?_
                  · obtain ⟨_, _, _, h66⟩ := hl.dep 17 66 rfl rfl
                    replace h66 : a.eval (.tmp 66) = _ := h66
                    obtain ⟨_, _, _, h71⟩ := hl.dep 22 71 rfl rfl
                    replace h71 : a.eval (.tmp 71) = _ := h71
                    have hadd := KA.out
                    refine wp_val (.float .f64 (fz (p.1 + p.2))) ?_ (hK _ _ (Kept.refl _) rfl)
                    clear hl hK
                    generalize a.eval = ρ at *
                    simp [execOp, go_sem, h66, h71, hadd]
                  refine AllSteps.cons (Step.yes 10 true 59 rfl rfl rfl (fun _ _ h => h) fun a w' K hl hK => ?_) ?_
                  · obtain ⟨_, _, _, h61⟩ := hl.dep 12 61 rfl rfl
                    replace h61 : a.eval (.tmp 61) = _ := h61
                    obtain ⟨_, _, _, h72⟩ := hl.dep 23 72 rfl rfl
                    replace h72 : a.eval (.tmp 72) = _ := h72
                    refine wp_val (.bool false) ?_ (hK _ _ (Kept.refl _) rfl)
                    clear hl hK
                    generalize a.eval = ρ at *
                    simp [execOp, go_sem, h61, h72, E2.out]
                  refine AllSteps.cons (Step.yes 1 false 50 rfl rfl rfl (fun _ _ h => h) fun a w' K hl hK => ?_) ?_
                  · obtain ⟨_, _, _, h59⟩ := hl.dep 10 59 rfl rfl
                    replace h59 : a.eval (.tmp 59) = _ := h59
                    obtain ⟨_, _, _, h73⟩ := hl.dep 24 73 rfl rfl
                    replace h73 : a.eval (.tmp 73) = _ := h73
                    exact wp_pick rfl true h59 (hK _ _ (Kept.refl _) h73)
                  refine AllSteps.cons (Step.plain rfl fun a w' K hl hK => ?_) ?_
                  · obtain ⟨_, _, _, h50⟩ := hl.dep 1 50 rfl rfl
                    replace h50 : a.eval (.tmp 50) = _ := h50
                    obtain ⟨_, _, _, h74⟩ := hl.dep 25 74 rfl rfl
                    replace h74 : a.eval (.tmp 74) = _ := h74
                    exact wp_pick rfl false h50 (hK _ _ (Kept.refl _) h74)
                  refine AllSteps.cons (Step.assign _ rfl rfl fun a w' hl => let ⟨_, _, _, h⟩ := hl.dep 26 75 rfl rfl; h) ?_
                  exact AllSteps.nil
                · intro f w9 hk9 hf
                  obtain ⟨_, _, hres⟩ := hf 10 rfl rfl
                  replace hres : f 10 = .bool false := hres
                  simp only [fill, dsts, List.filterMap_cons, List.filterMap_nil, List.foldl_cons, List.foldl_nil, Act.put, hres, List.setIfInBounds_toArray, List.set_cons_succ, List.set_cons_zero]
                  clear hf
                  have HB9 := Lib.hid (HBR.out.trans (Below.mono hk9 HBR.out.size))
                  clear hk9
                  go_wp2_with fail
                  go_roundw
                  case rel => exact ⟨k + 1, by omega, by go_num, by rw [HNX.out], HB9.out⟩
                  case measure => simp [intOf]; omega
            · have E1 : Hid ((FloatKind.f64.format.order (floatOfInt .f64 (pt : Int)) (fz p.1) == some .gt || FloatKind.f64.format.order (floatOfInt .f64 (pt : Int)) (fz p.1) == some .eq) = false) := Lib.hid ((geq_fz hsm' hpst.a.sm).trans (decide_eq_false h1))
              have HNX : Hid (inB (m.take (k + 1)) (pt : Int) = false) := Lib.hid (by rw [HTK.out, hin, inP_lo (by omega)]; rfl)
              clear hin HTK h1 hpst hse hsm'
              go_wp2_with fail
              refine wp_region_rely (by kernel_rfl) (fun d u w' => match d with
                | 10 => u = (.bool false : Value)
                | 49 => u = (.bool false : Value)
                | 50 => u = (.bool false : Value)
                | 51 => u = (.int .i64 (pt : Int) : Value)
                | 52 => u = (.float .f64 (floatOfInt .f64 (pt : Int)) : Value)
                | 53 => u = (.slice (some ⟨b1, o1, none⟩) m.length c1 : Value)
                | 54 => u = (.int .i64 (k : Int) : Value)
                | 55 => u = (.pointer (some ⟨b1, o1 + k, none⟩) : Value)
                | 56 => u = (.complex .f64 (fz p.1) (fz p.2) : Value)
                | 57 => u = (.float .f64 (fz p.1) : Value)
                | 58 => u = (.bool false : Value)
                | 59 => u = (.bool false : Value)
                | 60 => u = (Go.undef : Value)
                | 61 => u = (Go.undef : Value)
                | 62 => u = (Go.undef : Value)
                | 63 => u = (Go.undef : Value)
                | 64 => u = (Go.undef : Value)
                | 65 => u = (Go.undef : Value)
                | 66 => u = (Go.undef : Value)
                | 67 => u = (Go.undef : Value)
                | 68 => u = (Go.undef : Value)
                | 69 => u = (Go.undef : Value)
                | 70 => u = (Go.undef : Value)
                | 71 => u = (Go.undef : Value)
                | 72 => u = (Go.undef : Value)
                | 73 => u = (Go.undef : Value)
                | 74 => u = (.bool false : Value)
                | 75 => u = (.bool false : Value)
                | _ => True) 123 rfl (by decide +kernel) [10] ?_ ?_
              · refine AllSteps.cons (Step.move _ rfl rfl fun a w' hl => hl.early 27 10 rfl rfl) ?_
                refine AllSteps.cons (Step.move _ rfl rfl fun a w' hl => let ⟨_, _, _, h⟩ := hl.dep 0 49 rfl rfl; h) ?_
                refine AllSteps.cons (Step.yes 1 false 50 rfl rfl rfl (fun _ _ h => h) fun a w' K hl hK => ?_) ?_
                · have h9 : a.eval (.tmp 9) = (.int .i64 (pt : Int) : Value) := hl.old 9 rfl
                  exact wp_val (a.eval (.tmp 9)) rfl (hK _ _ (Kept.refl _) h9)
                refine AllSteps.cons (Step.yes 1 false 50 rfl rfl rfl (fun _ _ h => h) fun a w' K hl hK => ?_) ?_
                · obtain ⟨_, _, _, h51⟩ := hl.dep 2 51 rfl rfl
                  replace h51 : a.eval (.tmp 51) = _ := h51
                  refine wp_val (.float .f64 (floatOfInt .f64 (pt : Int))) ?_ (hK _ _ (Kept.refl _) rfl)
                  clear hl hK
                  generalize a.eval = ρ at *
                  simp [execOp, go_sem, h51]
                refine AllSteps.cons (Step.yes 1 false 50 rfl rfl rfl (fun _ _ h => h) fun a w' K hl hK => ?_) ?_
                · have h3 : a.eval (.tmp 3) = (.slice (some ⟨b1, o1, none⟩) m.length c1 : Value) := hl.old 3 rfl
                  exact wp_val (a.eval (.tmp 3)) rfl (hK _ _ (Kept.refl _) h3)
                refine AllSteps.cons (Step.yes 1 false 50 rfl rfl rfl (fun _ _ h => h) fun a w' K hl hK => ?_) ?_
                · have h11 : a.eval (.tmp 11) = (.int .i64 (k : Int) : Value) := hl.old 11 rfl
                  exact wp_val (a.eval (.tmp 11)) rfl (hK _ _ (Kept.refl _) h11)
                refine AllSteps.cons (Step.yes 1 false 50 rfl rfl rfl (fun _ _ h => h) fun a w' K hl hK => ?_) ?_
                · obtain ⟨_, _, _, h53⟩ := hl.dep 4 53 rfl rfl
                  replace h53 : a.eval (.tmp 53) = _ := h53
                  obtain ⟨_, _, _, h54⟩ := hl.dep 5 54 rfl rfl
                  replace h54 : a.eval (.tmp 54) = _ := h54
                  refine wp_val (.pointer (some ⟨b1, o1 + k, none⟩)) ?_ (hK _ _ (Kept.refl _) rfl)
                  clear hl hK
                  generalize a.eval = ρ at *
                  simp [execOp, go_sem, h53, h54]
                  try (intro h; omega)
                refine AllSteps.cons (Step.yes 1 false 50 rfl rfl rfl (fun _ _ h => h) fun a w' K hl hK => ?_) ?_
                · obtain ⟨_, _, _, h55⟩ := hl.dep 6 55 rfl rfl
                  replace h55 : a.eval (.tmp 55) = _ := h55
                  have hcell := (Below.cell hl.kept (p := ⟨b1, o1 + k, none⟩) hb1).trans HCP.out
                  refine wp_val (.complex .f64 (fz p.1) (fz p.2)) ?_ (hK _ _ (Kept.refl _) rfl)
                  clear hl hK
                  generalize a.eval = ρ at *
                  simp [execOp, go_sem, h55, hcell]
                refine AllSteps.cons (Step.yes 1 false 50 rfl rfl rfl (fun _ _ h => h) fun a w' K hl hK => ?_) ?_
                · obtain ⟨_, _, _, h56⟩ := hl.dep 7 56 rfl rfl
                  replace h56 : a.eval (.tmp 56) = _ := h56
                  refine wp_val (.float .f64 (fz p.1)) ?_ (hK _ _ (Kept.refl _) rfl)
                  clear hl hK
                  generalize a.eval = ρ at *
                  simp [go_sem, h56]
                refine AllSteps.cons (Step.yes 1 false 50 rfl rfl rfl (fun _ _ h => h) fun a w' K hl hK => ?_) ?_
                · obtain ⟨_, _, _, h52⟩ := hl.dep 3 52 rfl rfl
                  replace h52 : a.eval (.tmp 52) = _ := h52
                  obtain ⟨_, _, _, h57⟩ := hl.dep 8 57 rfl rfl
                  replace h57 : a.eval (.tmp 57) = _ := h57
                  refine wp_val (.bool false) ?_ (hK _ _ (Kept.refl _) rfl)
                  clear hl hK
                  generalize a.eval = ρ at *
                  simp [execOp, go_sem, h52, h57, E1.out]
                refine AllSteps.cons (Step.yes 1 false 50 rfl rfl rfl (fun _ _ h => h) fun a w' K hl hK => ?_) ?_
                · obtain ⟨_, _, _, h58⟩ := hl.dep 9 58 rfl rfl
                  replace h58 : a.eval (.tmp 58) = _ := h58
                  exact wp_val (a.eval (.tmp 58)) rfl (hK _ _ (Kept.refl _) h58)
                refine AllSteps.cons (Step.no 10 true 59 rfl rfl rfl (fun u w h => by rw [show u = (.bool false : Value) from h]; intro h'; cases h') (fun _ => rfl)) ?_
                refine AllSteps.cons (Step.no 10 true 59 rfl rfl rfl (fun u w h => by rw [show u = (.bool false : Value) from h]; intro h'; cases h') (fun _ => rfl)) ?_
                refine AllSteps.cons (Step.no 10 true 59 rfl rfl rfl (fun u w h => by rw [show u = (.bool false : Value) from h]; intro h'; cases h') (fun _ => rfl)) ?_
                refine AllSteps.cons (Step.no 10 true 59 rfl rfl rfl (fun u w h => by rw [show u = (.bool false : Value) from h]; intro h'; cases h') (fun _ => rfl)) ?_
                refine AllSteps.cons (Step.no 10 true 59 rfl rfl rfl (fun u w h => by rw [show u = (.bool false : Value) from h]; intro h'; cases h') (fun _ => rfl)) ?_
                refine AllSteps.cons (Step.no 10 true 59 rfl rfl rfl (fun u w h => by rw [show u = (.bool false : Value) from h]; intro h'; cases h') (fun _ => rfl)) ?_
                refine AllSteps.cons (Step.no 10 true 59 rfl rfl rfl (fun u w h => by rw [show u = (.bool false : Value) from h]; intro h'; cases h') (fun _ => rfl)) ?_
                refine AllSteps.cons (Step.no 10 true 59 rfl rfl rfl (fun u w h => by rw [show u = (.bool false : Value) from h]; intro h'; cases h') (fun _ => rfl)) ?_
                refine AllSteps.cons (Step.no 10 true 59 rfl rfl rfl (fun u w h => by rw [show u = (.bool false : Value) from h]; intro h'; cases h') (fun _ => rfl)) ?_
                refine AllSteps.cons (Step.no 10 true 59 rfl rfl rfl (fun u w h => by rw [show u = (.bool false : Value) from h]; intro h'; cases h') (fun _ => rfl)) ?_
                refine AllSteps.cons (Step.no 10 true 59 rfl rfl rfl (fun u w h => by rw [show u = (.bool false : Value) from h]; intro h'; cases h') (fun _ => rfl)) ?_
                refine AllSteps.cons (Step.no 10 true 59 rfl rfl rfl (fun u w h => by rw [show u = (.bool false : Value) from h]; intro h'; cases h') (fun _ => rfl)) ?_
                refine AllSteps.cons (Step.no 10 true 59 rfl rfl rfl (fun u w h => by rw [show u = (.bool false : Value) from h]; intro h'; cases h') (fun _ => rfl)) ?_
                refine AllSteps.cons (Step.no 10 true 59 rfl rfl rfl (fun u w h => by rw [show u = (.bool false : Value) from h]; intro h'; cases h') (fun _ => rfl)) ?_
                refine AllSteps.cons (Step.yes 1 false 50 rfl rfl rfl (fun _ _ h => h) fun a w' K hl hK => ?_) ?_
                · obtain ⟨_, _, _, h59⟩ := hl.dep 10 59 rfl rfl
                  replace h59 : a.eval (.tmp 59) = _ := h59
                  obtain ⟨_, _, _, h73⟩ := hl.dep 24 73 rfl rfl
                  replace h73 : a.eval (.tmp 73) = _ := h73
                  exact wp_pick rfl false h59 (hK _ _ (Kept.refl _) rfl)
                refine AllSteps.cons (Step.plain rfl fun a w' K hl hK => ?_) ?_
                · obtain ⟨_, _, _, h50⟩ := hl.dep 1 50 rfl rfl
                  replace h50 : a.eval (.tmp 50) = _ := h50
                  obtain ⟨_, _, _, h74⟩ := hl.dep 25 74 rfl rfl
                  replace h74 : a.eval (.tmp 74) = _ := h74
                  exact wp_pick rfl false h50 (hK _ _ (Kept.refl _) h74)
                refine AllSteps.cons (Step.assign _ rfl rfl fun a w' hl => let ⟨_, _, _, h⟩ := hl.dep 26 75 rfl rfl; h) ?_
                exact AllSteps.nil
              · intro f w9 hk9 hf
                obtain ⟨_, _, hres⟩ := hf 10 rfl rfl
                replace hres : f 10 = .bool false := hres
                simp only [fill, dsts, List.filterMap_cons, List.filterMap_nil, List.foldl_cons, List.foldl_nil, Act.put, hres, List.setIfInBounds_toArray, List.set_cons_succ, List.set_cons_zero]
                clear hf
                have HB9 := Lib.hid (HBR.out.trans (Below.mono hk9 HBR.out.size))
                clear hk9
                go_wp2_with fail
                go_roundw
                case rel => exact ⟨k + 1, by omega, by go_num, by rw [HNX.out], HB9.out⟩
                case measure => simp [intOf]; omega
          · have HNX : Hid (inB (m.take (k + 1)) (pt : Int) = true) := Lib.hid (by rw [HTK.out, hin]; rfl)
            clear hin HTK hpst hse hsm'
            go_wp2_with fail
            refine wp_region_rely (by kernel_rfl) (fun d u w' => match d with
              | 10 => u = (.bool true : Value)
              | 49 => u = (.bool true : Value)
              | 50 => u = (.bool true : Value)
              | 51 => u = (Go.undef : Value)
              | 52 => u = (Go.undef : Value)
              | 53 => u = (Go.undef : Value)
              | 54 => u = (Go.undef : Value)
              | 55 => u = (Go.undef : Value)
              | 56 => u = (Go.undef : Value)
              | 57 => u = (Go.undef : Value)
              | 58 => u = (Go.undef : Value)
              | 59 => u = (Go.undef : Value)
              | 60 => u = (Go.undef : Value)
              | 61 => u = (Go.undef : Value)
              | 62 => u = (Go.undef : Value)
              | 63 => u = (Go.undef : Value)
              | 64 => u = (Go.undef : Value)
              | 65 => u = (Go.undef : Value)
              | 66 => u = (Go.undef : Value)
              | 67 => u = (Go.undef : Value)
              | 68 => u = (Go.undef : Value)
              | 69 => u = (Go.undef : Value)
              | 70 => u = (Go.undef : Value)
              | 71 => u = (Go.undef : Value)
              | 72 => u = (Go.undef : Value)
              | 73 => u = (Go.undef : Value)
              | 74 => u = (Go.undef : Value)
              | 75 => u = (.bool true : Value)
              | _ => True) 123 rfl (by decide +kernel) [10] ?_ ?_
            · refine AllSteps.cons (Step.move _ rfl rfl fun a w' hl => hl.early 27 10 rfl rfl) ?_
              refine AllSteps.cons (Step.move _ rfl rfl fun a w' hl => let ⟨_, _, _, h⟩ := hl.dep 0 49 rfl rfl; h) ?_
              refine AllSteps.cons (Step.no 1 false 50 rfl rfl rfl (fun u w h => by rw [show u = (.bool true : Value) from h]; intro h'; cases h') (fun _ => rfl)) ?_
              refine AllSteps.cons (Step.no 1 false 50 rfl rfl rfl (fun u w h => by rw [show u = (.bool true : Value) from h]; intro h'; cases h') (fun _ => rfl)) ?_
              refine AllSteps.cons (Step.no 1 false 50 rfl rfl rfl (fun u w h => by rw [show u = (.bool true : Value) from h]; intro h'; cases h') (fun _ => rfl)) ?_
              refine AllSteps.cons (Step.no 1 false 50 rfl rfl rfl (fun u w h => by rw [show u = (.bool true : Value) from h]; intro h'; cases h') (fun _ => rfl)) ?_
              refine AllSteps.cons (Step.no 1 false 50 rfl rfl rfl (fun u w h => by rw [show u = (.bool true : Value) from h]; intro h'; cases h') (fun _ => rfl)) ?_
              refine AllSteps.cons (Step.no 1 false 50 rfl rfl rfl (fun u w h => by rw [show u = (.bool true : Value) from h]; intro h'; cases h') (fun _ => rfl)) ?_
              refine AllSteps.cons (Step.no 1 false 50 rfl rfl rfl (fun u w h => by rw [show u = (.bool true : Value) from h]; intro h'; cases h') (fun _ => rfl)) ?_
              refine AllSteps.cons (Step.no 1 false 50 rfl rfl rfl (fun u w h => by rw [show u = (.bool true : Value) from h]; intro h'; cases h') (fun _ => rfl)) ?_
              refine AllSteps.cons (Step.no 1 false 50 rfl rfl rfl (fun u w h => by rw [show u = (.bool true : Value) from h]; intro h'; cases h') (fun _ => rfl)) ?_
              refine AllSteps.cons (Step.no 10 true 59 rfl rfl rfl (fun u w h => by rw [show u = (Go.undef : Value) from h]; intro h'; cases h') (fun _ => rfl)) ?_
              refine AllSteps.cons (Step.no 10 true 59 rfl rfl rfl (fun u w h => by rw [show u = (Go.undef : Value) from h]; intro h'; cases h') (fun _ => rfl)) ?_
              refine AllSteps.cons (Step.no 10 true 59 rfl rfl rfl (fun u w h => by rw [show u = (Go.undef : Value) from h]; intro h'; cases h') (fun _ => rfl)) ?_
              refine AllSteps.cons (Step.no 10 true 59 rfl rfl rfl (fun u w h => by rw [show u = (Go.undef : Value) from h]; intro h'; cases h') (fun _ => rfl)) ?_
              refine AllSteps.cons (Step.no 10 true 59 rfl rfl rfl (fun u w h => by rw [show u = (Go.undef : Value) from h]; intro h'; cases h') (fun _ => rfl)) ?_
              refine AllSteps.cons (Step.no 10 true 59 rfl rfl rfl (fun u w h => by rw [show u = (Go.undef : Value) from h]; intro h'; cases h') (fun _ => rfl)) ?_
              refine AllSteps.cons (Step.no 10 true 59 rfl rfl rfl (fun u w h => by rw [show u = (Go.undef : Value) from h]; intro h'; cases h') (fun _ => rfl)) ?_
              refine AllSteps.cons (Step.no 10 true 59 rfl rfl rfl (fun u w h => by rw [show u = (Go.undef : Value) from h]; intro h'; cases h') (fun _ => rfl)) ?_
              refine AllSteps.cons (Step.no 10 true 59 rfl rfl rfl (fun u w h => by rw [show u = (Go.undef : Value) from h]; intro h'; cases h') (fun _ => rfl)) ?_
              refine AllSteps.cons (Step.no 10 true 59 rfl rfl rfl (fun u w h => by rw [show u = (Go.undef : Value) from h]; intro h'; cases h') (fun _ => rfl)) ?_
              refine AllSteps.cons (Step.no 10 true 59 rfl rfl rfl (fun u w h => by rw [show u = (Go.undef : Value) from h]; intro h'; cases h') (fun _ => rfl)) ?_
              refine AllSteps.cons (Step.no 10 true 59 rfl rfl rfl (fun u w h => by rw [show u = (Go.undef : Value) from h]; intro h'; cases h') (fun _ => rfl)) ?_
              refine AllSteps.cons (Step.no 10 true 59 rfl rfl rfl (fun u w h => by rw [show u = (Go.undef : Value) from h]; intro h'; cases h') (fun _ => rfl)) ?_
              refine AllSteps.cons (Step.no 10 true 59 rfl rfl rfl (fun u w h => by rw [show u = (Go.undef : Value) from h]; intro h'; cases h') (fun _ => rfl)) ?_
              refine AllSteps.cons (Step.no 1 false 50 rfl rfl rfl (fun u w h => by rw [show u = (.bool true : Value) from h]; intro h'; cases h') (fun _ => rfl)) ?_
              refine AllSteps.cons (Step.plain rfl fun a w' K hl hK => ?_) ?_
              · obtain ⟨_, _, _, h50⟩ := hl.dep 1 50 rfl rfl
                replace h50 : a.eval (.tmp 50) = _ := h50
                obtain ⟨_, _, _, h74⟩ := hl.dep 25 74 rfl rfl
                replace h74 : a.eval (.tmp 74) = _ := h74
                exact wp_pick rfl true h50 (hK _ _ (Kept.refl _) rfl)
              refine AllSteps.cons (Step.assign _ rfl rfl fun a w' hl => let ⟨_, _, _, h⟩ := hl.dep 26 75 rfl rfl; h) ?_
              exact AllSteps.nil
            · intro f w9 hk9 hf
              obtain ⟨_, _, hres⟩ := hf 10 rfl rfl
              replace hres : f 10 = .bool true := hres
              simp only [fill, dsts, List.filterMap_cons, List.filterMap_nil, List.foldl_cons, List.foldl_nil, Act.put, hres, List.setIfInBounds_toArray, List.set_cons_succ, List.set_cons_zero]
              clear hf
              have HB9 := Lib.hid (HBR.out.trans (Below.mono hk9 HBR.out.size))
              clear hk9
              go_wp2_with fail
              go_roundw
              case rel => exact ⟨k + 1, by omega, by go_num, by rw [HNX.out], HB9.out⟩
              case measure => simp [intOf]; omega
        · have hge : (m.length : Int) ≤ (k : Int) := by omega
          have hii : inB (m.take k) (pt : Int) = inB m (pt : Int) := by rw [List.take_of_length_le (by omega)]
          obtain ⟨hh1, hh2⟩ := HIN.out (pt : Int)
          have H1 := Lib.hid (HSN.out A4 c4 (pt : Int) wr (N_6.out.on (Nat.le_refl _) HBR.out))
          rw [hh1] at H1
          have H2 := Lib.hid (fun w' (hb : Below W6.heap.size W6 w') => HSMq.out A1 c1 (pt : Int) w' (M_6.out.on (Nat.le_refl _) hb))
          simp only [hh2] at H2
          rw [hii]
          clear hii hh1 hh2
          cases hin : inB m (pt : Int)
          · rw [hin] at H1 HSTEP
            simp only [hin] at H2
            clear hin
            go_wp2_with fail
            refine H1.out.mono ?_
            rintro e w2 ⟨rfl, hb2⟩
            have HB2' := Lib.hid (HBR.out.trans (Below.mono hb2 HBR.out.size))
            clear hb2
            go_wp2_with fail
            refine (H2.out _ HB2'.out).mono ?_
            rintro e w3 ⟨rfl, hb3⟩
            have HB3' := Lib.hid (HB2'.out.trans (Below.mono hb3 HB2'.out.size))
            clear hb3
            go_wp2_with fail
            go_roundw
            case rel => exact ⟨pt + 1, by omega, by go_num, by rw [HSTEP.out]; rfl, HB3'.out⟩
            case measure => simp [intOf]; omega
          · rw [hin] at H1 HSTEP
            simp only [hin] at H2
            clear hin
            go_wp2_with fail
            refine H1.out.mono ?_
            rintro e w2 ⟨rfl, hb2⟩
            have HB2' := Lib.hid (HBR.out.trans (Below.mono hb2 HBR.out.size))
            clear hb2
            go_wp2_with fail
            refine (H2.out _ HB2'.out).mono ?_
            rintro e w3 ⟨rfl, hb3⟩
            have HB3' := Lib.hid (HB2'.out.trans (Below.mono hb3 HB2'.out.size))
            clear hb3
            go_wp2_with fail
            go_roundw
            case rel => exact ⟨pt + 1, by omega, by go_num, by rw [HSTEP.out]; rfl, HB3'.out⟩
            case measure => simp [intOf]; omega
    · obtain rfl : pt = 230 := by omega
      have hce : (cnt (inB m) 230 : Int) = S := HCN.out
      have HCE := Lib.hid hce
      clear hce hcb
      generalize cnt (inB m) 230 = ct at *
      go_wp2_with fail
      go_loopw [12] (fun iv wr => ∃ i : Nat, 1 ≤ i ∧ i ≤ n.length + 1 ∧ iv = .int .i64 (i : Int) ∧ Below W6.heap.size W6 wr) (fun iv _ => n.length + 1 - (intOf iv).toNat)
      case atStart => exact ⟨1, by omega, by omega, rfl, HBI.out⟩
      case round =>
        obtain ⟨i, hi1', hin', rfl, hbel⟩ := hrel
        have HBR := Lib.hid hbel
        clear hbel
        by_cases hlti : i < n.length
        · have hltiI : (i : Int) < (n.length : Int) := by omega
          have hi0' : (0 : Int) ≤ (i : Int) := by omega
          obtain ⟨i1, hi1e⟩ : ∃ i1, i = i1 + 1 := ⟨i - 1, by omega⟩
          have hi1 : (i : Int) - 1 = (i1 : Int) := by omega
          have hi1l : (i1 : Int) < (n.length : Int) := by omega
          have hi10 : (0 : Int) ≤ (i1 : Int) := by omega
          obtain ⟨q, hq⟩ : ∃ q, n[i]? = some q := ⟨_, List.getElem?_eq_getElem hlti⟩
          obtain ⟨p, hp⟩ : ∃ p, n[i1]? = some p := ⟨_, List.getElem?_eq_getElem (by omega)⟩
          have hqst := NST.out q (List.mem_of_getElem? hq)
          have hpst := NST.out p (List.mem_of_getElem? hp)
          have hadj := HADJ.out i1 p q hp (by rw [← hi1e]; exact hq)
          have hse : Sm (p.1 + p.2) := by unfold St at hpst; unfold Sm; omega
          have E3 : Hid ((FloatKind.f64.format.order (fz q.1) (fz (p.1 + p.2)) == some .lt || FloatKind.f64.format.order (fz q.1) (fz (p.1 + p.2)) == some .eq) = false) := Lib.hid ((leq_fz hqst.a.sm hse).trans (decide_eq_false (by omega)))
          have KA := Lib.hid (fun w => run_float_arith (P := Try.prog) w .add 29 .f64 (fz p.1) (fz p.2) _ (sum_fz hpst.a hpst.n hpst.1))
          have hA : ∃ b2 o2, A4 = some ⟨b2, o2, none⟩ ∧ b2 < W6.heap.size ∧ W6.cell? ⟨b2, o2 + i, none⟩ = some (.complex .f64 (fz q.1) (fz q.2)) ∧ W6.cell? ⟨b2, o2 + i1, none⟩ = some (.complex .f64 (fz p.1) (fz p.2)) := by
            obtain ⟨b2, o2, e, hbw, hcc⟩ := N_6.out.at (by omega) (by decide)
            exact ⟨b2, o2, e, hbw, hcc i _ (by rw [List.getElem?_map, hq]; rfl), hcc i1 _ (by rw [List.getElem?_map, hp]; rfl)⟩
          obtain ⟨b2, o2, rfl, hbw2, hcq, hcp⟩ := hA
          have HCQ := Lib.hid ((Below.cell HBR.out (p := ⟨b2, o2 + i, none⟩) hbw2).trans hcq)
          have HCP := Lib.hid ((Below.cell HBR.out (p := ⟨b2, o2 + i1, none⟩) hbw2).trans hcp)
          have hb2 := Nat.lt_of_lt_of_le hbw2 HBR.out.size
          clear hp hq hcp hcq hpst hqst hse hadj hi1e
          go_wp2_with fail
          refine wp_region_rely (by kernel_rfl) (fun d u w' => match d with
            | 97 => u = (.slice (some ⟨b2, o2, none⟩) n.length c4 : Value)
            | 98 => u = (.int .i64 (i : Int) : Value)
            | 99 => u = (.pointer (some ⟨b2, o2 + i, none⟩) : Value)
            | 100 => u = (.complex .f64 (fz q.1) (fz q.2) : Value)
            | 101 => u = (.float .f64 (fz q.1) : Value)
            | 102 => u = (.slice (some ⟨b2, o2, none⟩) n.length c4 : Value)
            | 103 => u = (.int .i64 (i : Int) : Value)
            | 104 => u = (.int .i64 ((i1 : Nat) : Int) : Value)
            | 105 => u = (.pointer (some ⟨b2, o2 + i1, none⟩) : Value)
            | 106 => u = (.complex .f64 (fz p.1) (fz p.2) : Value)
            | 107 => u = (.float .f64 (fz p.1) : Value)
            | 108 => u = (.slice (some ⟨b2, o2, none⟩) n.length c4 : Value)
            | 109 => u = (.int .i64 (i : Int) : Value)
            | 110 => u = (.int .i64 ((i1 : Nat) : Int) : Value)
            | 111 => u = (.pointer (some ⟨b2, o2 + i1, none⟩) : Value)
            | 112 => u = (.complex .f64 (fz p.1) (fz p.2) : Value)
            | 113 => u = (.float .f64 (fz p.2) : Value)
            | 114 => u = (.float .f64 (fz (p.1 + p.2)) : Value)
            | 115 => u = (.bool false : Value)
            | _ => True) 123 rfl (by decide +kernel) [115] ?_ ?_
          · refine AllSteps.cons (Step.move _ rfl rfl fun a w' hl => hl.old 4 rfl) ?_
            refine AllSteps.cons (Step.move _ rfl rfl fun a w' hl => hl.old 12 rfl) ?_
            refine AllSteps.cons (Step.plain rfl fun a w' K hl hK => ?_) ?_
            · obtain ⟨_, _, _, h97⟩ := hl.dep 0 97 rfl rfl
              replace h97 : a.eval (.tmp 97) = _ := h97
              obtain ⟨_, _, _, h98⟩ := hl.dep 1 98 rfl rfl
              replace h98 : a.eval (.tmp 98) = _ := h98
              refine wp_val (.pointer (some ⟨b2, o2 + i, none⟩)) ?_ (hK _ _ (Kept.refl _) rfl)
              clear hl hK
              generalize a.eval = ρ at *
              simp [execOp, go_sem, h97, h98]
              try (intro h; omega)
            refine AllSteps.cons (Step.plain rfl fun a w' K hl hK => ?_) ?_
            · obtain ⟨_, _, _, h99⟩ := hl.dep 2 99 rfl rfl
              replace h99 : a.eval (.tmp 99) = _ := h99
              have hcell := (Below.cell hl.kept (p := ⟨b2, o2 + i, none⟩) hb2).trans HCQ.out
              refine wp_val (.complex .f64 (fz q.1) (fz q.2)) ?_ (hK _ _ (Kept.refl _) rfl)
              clear hl hK
              generalize a.eval = ρ at *
              simp [execOp, go_sem, h99, hcell]
            refine AllSteps.cons (Step.plain rfl fun a w' K hl hK => ?_) ?_
            · obtain ⟨_, _, _, h100⟩ := hl.dep 3 100 rfl rfl
              replace h100 : a.eval (.tmp 100) = _ := h100
              refine wp_val (.float .f64 (fz q.1)) ?_ (hK _ _ (Kept.refl _) rfl)
              clear hl hK
              generalize a.eval = ρ at *
              simp [go_sem, h100]
            refine AllSteps.cons (Step.move _ rfl rfl fun a w' hl => hl.old 4 rfl) ?_
            refine AllSteps.cons (Step.move _ rfl rfl fun a w' hl => hl.old 12 rfl) ?_
            refine AllSteps.cons (Step.plain rfl fun a w' K hl hK => ?_) ?_
            · obtain ⟨_, _, _, h103⟩ := hl.dep 6 103 rfl rfl
              replace h103 : a.eval (.tmp 103) = _ := h103
              have hconst : ∀ x, a.eval (.const x) = x := fun _ => rfl
              refine wp_val (.int .i64 ((i1 : Nat) : Int)) ?_ (hK _ _ (Kept.refl _) rfl)
              clear hl hK
              generalize a.eval = ρ at *
              simp [execOp, go_sem, h103, hconst, hi1]
              rw [IntKind.wrap_i64]
              omega
            refine AllSteps.cons (Step.plain rfl fun a w' K hl hK => ?_) ?_
            · obtain ⟨_, _, _, h102⟩ := hl.dep 5 102 rfl rfl
              replace h102 : a.eval (.tmp 102) = _ := h102
              obtain ⟨_, _, _, h104⟩ := hl.dep 7 104 rfl rfl
              replace h104 : a.eval (.tmp 104) = _ := h104
              refine wp_val (.pointer (some ⟨b2, o2 + i1, none⟩)) ?_ (hK _ _ (Kept.refl _) rfl)
              clear hl hK
              generalize a.eval = ρ at *
              simp [execOp, go_sem, h102, h104]
              try (intro h; omega)
            refine AllSteps.cons (Step.plain rfl fun a w' K hl hK => ?_) ?_
            · obtain ⟨_, _, _, h105⟩ := hl.dep 8 105 rfl rfl
              replace h105 : a.eval (.tmp 105) = _ := h105
              have hcell := (Below.cell hl.kept (p := ⟨b2, o2 + i1, none⟩) hb2).trans HCP.out
              refine wp_val (.complex .f64 (fz p.1) (fz p.2)) ?_ (hK _ _ (Kept.refl _) rfl)
              clear hl hK
              generalize a.eval = ρ at *
              simp [execOp, go_sem, h105, hcell]
            refine AllSteps.cons (Step.plain rfl fun a w' K hl hK => ?_) ?_
            · obtain ⟨_, _, _, h106⟩ := hl.dep 9 106 rfl rfl
              replace h106 : a.eval (.tmp 106) = _ := h106
              refine wp_val (.float .f64 (fz p.1)) ?_ (hK _ _ (Kept.refl _) rfl)
              clear hl hK
              generalize a.eval = ρ at *
              simp [go_sem, h106]
            refine AllSteps.cons (Step.move _ rfl rfl fun a w' hl => hl.old 4 rfl) ?_
            refine AllSteps.cons (Step.move _ rfl rfl fun a w' hl => hl.old 12 rfl) ?_
            refine AllSteps.cons (Step.plain rfl fun a w' K hl hK => ?_) ?_
            · obtain ⟨_, _, _, h109⟩ := hl.dep 12 109 rfl rfl
              replace h109 : a.eval (.tmp 109) = _ := h109
              have hconst : ∀ x, a.eval (.const x) = x := fun _ => rfl
              refine wp_val (.int .i64 ((i1 : Nat) : Int)) ?_ (hK _ _ (Kept.refl _) rfl)
              clear hl hK
              generalize a.eval = ρ at *
              simp [execOp, go_sem, h109, hconst, hi1]
              rw [IntKind.wrap_i64]
              omega
            refine AllSteps.cons (Step.plain rfl fun a w' K hl hK => ?_) ?_
            · obtain ⟨_, _, _, h108⟩ := hl.dep 11 108 rfl rfl
              replace h108 : a.eval (.tmp 108) = _ := h108
              obtain ⟨_, _, _, h110⟩ := hl.dep 13 110 rfl rfl
              replace h110 : a.eval (.tmp 110) = _ := h110
              refine wp_val (.pointer (some ⟨b2, o2 + i1, none⟩)) ?_ (hK _ _ (Kept.refl _) rfl)
              clear hl hK
              generalize a.eval = ρ at *
              simp [execOp, go_sem, h108, h110]
              try (intro h; omega)
            refine AllSteps.cons (Step.plain rfl fun a w' K hl hK => ?_) ?_
            · obtain ⟨_, _, _, h111⟩ := hl.dep 14 111 rfl rfl
              replace h111 : a.eval (.tmp 111) = _ := h111
              have hcell := (Below.cell hl.kept (p := ⟨b2, o2 + i1, none⟩) hb2).trans HCP.out
              refine wp_val (.complex .f64 (fz p.1) (fz p.2)) ?_ (hK _ _ (Kept.refl _) rfl)
              clear hl hK
              generalize a.eval = ρ at *
              simp [execOp, go_sem, h111, hcell]
            refine AllSteps.cons (Step.plain rfl fun a w' K hl hK => ?_) ?_
            · obtain ⟨_, _, _, h112⟩ := hl.dep 15 112 rfl rfl
              replace h112 : a.eval (.tmp 112) = _ := h112
              refine wp_val (.float .f64 (fz p.2)) ?_ (hK _ _ (Kept.refl _) rfl)
              clear hl hK
              generalize a.eval = ρ at *
              simp [go_sem, h112]
            refine AllSteps.cons (Step.plain rfl fun a w' K hl hK => ?_) ?_
            · obtain ⟨_, _, _, h107⟩ := hl.dep 10 107 rfl rfl
              replace h107 : a.eval (.tmp 107) = _ := h107
              obtain ⟨_, _, _, h113⟩ := hl.dep 16 113 rfl rfl
              replace h113 : a.eval (.tmp 113) = _ := h113
              have hadd := KA.out
              refine wp_val (.float .f64 (fz (p.1 + p.2))) ?_ (hK _ _ (Kept.refl _) rfl)
              clear hl hK
              generalize a.eval = ρ at *
              simp [execOp, go_sem, h107, h113, hadd]
            refine AllSteps.cons (Step.plain rfl fun a w' K hl hK => ?_) ?_
            · obtain ⟨_, _, _, h101⟩ := hl.dep 4 101 rfl rfl
              replace h101 : a.eval (.tmp 101) = _ := h101
              obtain ⟨_, _, _, h114⟩ := hl.dep 17 114 rfl rfl
              replace h114 : a.eval (.tmp 114) = _ := h114
              refine wp_val (.bool false) ?_ (hK _ _ (Kept.refl _) rfl)
              clear hl hK
              generalize a.eval = ρ at *
              simp [execOp, go_sem, h101, h114, E3.out]
            exact AllSteps.nil
          · intro f w9 hk9 hf
            obtain ⟨_, _, hres⟩ := hf 115 rfl rfl
            replace hres : f 115 = .bool false := hres
            simp only [Exit.then, fill, dsts, List.filterMap_cons, List.filterMap_nil, List.foldl_cons, List.foldl_nil, Act.put, hres, List.setIfInBounds_toArray, List.set_cons_succ, List.set_cons_zero]
            clear hf
            have HB9 := Lib.hid (HBR.out.trans (Below.mono hk9 HBR.out.size))
            clear hk9
            go_wp2_with fail
            go_roundw
            case rel => exact ⟨i + 1, by omega, by omega, by go_num, HB9.out⟩
            case measure => simp [intOf]; omega
        · have hge : (n.length : Int) ≤ (i : Int) := by omega
          have SUMN := Lib.hid (SUM.out A4 c4 wr (N_6.out.on (Nat.le_refl _) HBR.out))
          rw [← HCE.out] at SUMN
          have HBJ := Lib.hid (HB6.out.trans (Below.mono HBR.out HB6.out.size))
          go_wp2_with fail
          refine SUMN.out.mono ?_
          rintro e w' ⟨rfl, rfl⟩
          go_wp2_with fail
          refine (awake_any _).mono ?_
          rintro e w8 ⟨rfl, hb8⟩
          have HB8 := Lib.hid (HBJ.out.trans (Below.mono hb8 HBJ.out.size))
          go_wp2_with fail
          go_ret
          exact ⟨rfl, HB8.out⟩
end Go.Proofs.Ythdbllcpfajjmaa.Sp
