/-
  The document's stretches of free blocks.
-/
import Derived.Test.YtipdaecihfkonaaAll3
import Derived.Test.YtipdaecihfkonaaBit7
import Derived.Test.YtipdaecihfkonaaRelyE
namespace Go.Proofs.Ytipdaecihfkonaa.Bt
open Fl Go.RowKit Ga Wd Sp By We
set_option linter.unusedVariables false

section
variable {Q : Exit → Act → World → Prop} {o : Oper}
theorem own_keepP {w w' : World} {b : Nat} {e : TypeId} {size n : Nat} {v : Value} {xs : List Value} (h : w.ownsRow b e size v n xs) (hk : ∀ g, v.ownBlock = some g → w'.heap[g]? = w.heap[g]?) : w'.ownsRow b e size v n xs := by
  refine ⟨h.1, ?_⟩
  rcases h.2 with hn | ⟨g, cap, cur, rfl, hb, hgg, rest⟩
  · exact .inl hn
  · exact .inr ⟨g, cap, cur, rfl, hb, (hk g rfl).trans hgg, rest⟩
theorem keptAlloc (w : World) (ob : Obj) : Kept w (w.alloc ob) := (Below.refl _ _).alloc (Nat.le_refl _) ob
theorem OneP.kept {m : Ps} {x : Int × Int} {B0 : Nat} {u : Value} {w w' : World} (h : ∃ A c, u = .slice A (m.length + 1) c ∧ w.ownsRow B0 58 2 u (m.length + 1) (pcs (m ++ [x]))) (hk : Kept w w') :
    ∃ A c, u = .slice A (m.length + 1) c ∧ w'.ownsRow B0 58 2 u (m.length + 1) (pcs (m ++ [x])) := by
  obtain ⟨A, c, rfl, ho⟩ := h
  exact ⟨A, c, rfl, own_keepP ho fun g hg => hk.block g (own_lt ho g hg).2⟩
theorem wp_build_pair {a : Act} {w : World} {K : Act → World → Prop} {x : Operand} (ho : o.op = .buildSlice 56 1 #[(0, x)]) {p q : Int} (hx : a.eval x = .agg #[.int .i64 p, .int .i64 q])
    (h : K (a.put o.dst (.slice (some ⟨w.heap.size, 0, none⟩) 1 1)) (w.alloc (.cells #[.int .i64 p, .int .i64 q] 58))) : Oper.wp Try.prog o a w K Q := by
  have hr : (execOp a.eval o).run Try.prog w = .ok (.value (.slice (some ⟨w.heap.size, 0, none⟩) 1 1)) (w.alloc (.cells #[.int .i64 p, .int .i64 q] 58)) := by
    clear h
    unfold execOp
    generalize a.eval = ρ at *
    simp [ho, hx, go_sem]
  unfold Oper.wp
  rw [hr]
  exact h
theorem wp_append_pair {a : Act} {w : World} {K : Act → World → Prop} {s y : Operand} (ho : o.op = .call { callee := .builtin .append, args := #[s, y], argTypes := #[56, 56] })
    (b : Nat) (hb : b ≤ w.heap.size) {A : Option Addr} {c g : Nat} {m : Ps} {x1 x2 : Int} (hs : a.eval s = .slice A m.length c) (hy : a.eval y = .slice (some ⟨g, 0, none⟩) 1 1)
    (hL : w.ownsRow b 58 2 (.slice A m.length c) m.length (pcs m)) (hc : w.cell? ⟨g, 0, none⟩ = some (.int .i64 x1)) (hc2 : w.cell? ⟨g, 1, none⟩ = some (.int .i64 x2)) (hlen : m.length ≤ 1000000)
    (hK : ∀ u w', (∃ A c, u = .slice A (m.length + 1) c ∧ w'.ownsRow b 58 2 u (m.length + 1) (pcs (m ++ [(x1, x2)]))) → Below b w w' → (∀ k, k < w.heap.size → (Value.slice A m.length c).ownBlock ≠ some k → w'.heap[k]? = w.heap[k]?) → K (a.put o.dst u) w') : Oper.wp Try.prog o a w K Q := by
  obtain ⟨i0, hi, hz0, hz1, hz2⟩ := info_parts infoS
  have hsl : Sl w w.heap.size 2 (some ⟨g, 0, none⟩) 1 (pcs [(x1, x2)]) := ⟨rfl, fun _ => ⟨_, rfl, World.block_lt_of_cell? _ _ hc, fun j u hj => by
    match j, hj with
    | 0, hj =>
      injection hj with hj
      subst hj
      rw [Addr.add_lit, hc]
    | 1, hj =>
      injection hj with hj
      subst hj
      rw [Addr.add_lit, hc2]⟩⟩
  obtain ⟨v', w', hr, h1, h2, h3, h4, h5⟩ := run_append_mine (P := Try.prog) w b 56 56 o.type 58 i0 (.agg #[.int .i64 0, .int .i64 0]) 2 16 hz1 hz2 rfl (by decide) _ _ _ (.inr hL) (.slice (some ⟨g, 0, none⟩) 1 1) 1 (pcs [(x1, x2)])
    (Gives.slice Try.underlying56 hi hz0 (by rw [hz1]; exact hsl) (pcs_one _)) (by simp only [maxLen]; omega) (by omega) hb
  have hown := h5 (.inl (by decide))
  obtain ⟨A', c', rfl, _⟩ := h1.form
  unfold Oper.wp execOp
  simp only [ho, resolve, invoke, builtin, Sem.run_bind, Sem.run_pure, Result.andThen_ok, List.map_toArray, List.map_cons, List.map_nil, hs, hy, hr]
  refine hK _ w' ⟨A', c', rfl, by rw [pcs_append]; exact hown⟩ h3 fun k hk hne => h2.block k hk (fun e => hne e.symm)
end
theorem ones_take {F : List Int} {i : Nat} {z : Int} (h : F[i]? = some z) : (F.take (i + 1)).map one = (F.take i).map one ++ [(z, z + 1)] := by
  rw [List.take_add_one, h, List.map_append]
  rfl
set_option maxHeartbeats 1600000 in
theorem rspans_any (A : Option Addr) (L : List UInt8) (c : Nat) (blocks : Int) (w : World) (hs : Sl w w.heap.size 1 A L.length (L.map bv)) (hk : L.length ≤ 140737488355328) :
    Calls Try.prog 24 #[.slice A L.length c, .int .i64 blocks] w (SpR w (spans L blocks)) := by
  have HF := Lib.hid (rfrees_any A L c blocks w hs hk)
  have hno := norm_ones L blocks
  have hsp : ((spans L blocks).map pairP).map cq = spans L blocks := by
    rw [List.map_map]
    refine (List.map_congr_left fun p hp => ?_).trans (List.map_id _)
    obtain ⟨a, n⟩ := p
    show (a, a + n - a) = (a, n)
    congr 1
    omega
  have hfl := frees_len L blocks (top blocks)
  have htop := top_le blocks
  have hfb : ∀ x ∈ frees L blocks (top blocks), 0 ≤ x ∧ x < 1024 := fun x hx => by
    unfold frees at hx
    obtain ⟨j, hj, rfl⟩ := List.mem_map.1 hx
    have := List.mem_range.1 (List.mem_filter.1 hj).1
    omega
  generalize frees L blocks (top blocks) = F at *
  have hbd : ∀ p ∈ F.map one, Bd p := fun p hp => by
    obtain ⟨x, hx, rfl⟩ := List.mem_map.1 hp
    have := hfb x hx
    unfold Bd one
    simp only
    omega
  have HN : Hid (∀ A c w, Sl w w.heap.size 2 A (F.map one).length (pcs (F.map one)) → Calls Try.prog 32 #[.slice A (F.map one).length c] w (NormR w (nmR (F.map one) (F.map one).length))) := Lib.hid fun A c w hs => rnorm_any A (F.map one) c w hs hbd (by rw [List.length_map]; omega)
  have hb2 := nmR_bd (F.map one) hbd (F.map one).length
  have hl2 := nmR_len (F.map one) (F.map one).length
  rw [hno] at HN hb2 hl2
  have hFl : (F.map one).length = F.length := List.length_map _
  rw [hFl] at HN hl2
  have HC : Hid (∀ A c w, Sl w w.heap.size 2 A ((spans L blocks).map pairP).length (pcs ((spans L blocks).map pairP)) → Calls Try.prog 31 #[.slice A ((spans L blocks).map pairP).length c] w (SpR w (spans L blocks))) := Lib.hid fun A c w hs => by
    have := rcs_any A _ c w hs hb2 (by omega)
    rwa [hsp] at this
  have HFB := Lib.hid hfb
  obtain ⟨SP, hSP⟩ : ∃ SP, SP = spans L blocks := ⟨_, rfl⟩
  rw [← hSP] at HC HN ⊢
  generalize SP.map pairP = NP at *
  clear hs hno hsp hfb hbd hb2 hl2 hSP
  go_enter Try.func24, Try.ntmps24
  go_wp2_with fail
  refine HF.out.mono ?_
  rintro e w1 ⟨A5, c5, rfl, hs1, hc1, hown1, hb1⟩
  have HS1 := Lib.hid hs1
  have HB1 := Lib.hid hb1
  clear hs1 hown1 hb1
  go_wp2_with fail
  go_loopw [6, 7] (fun mv iv wr => ∃ i : Nat, i ≤ F.length ∧ iv = .int .i64 (i : Int) ∧ wr.ownsRow w1.heap.size 58 2 mv i (pcs ((F.take i).map one)) ∧ Below w1.heap.size w1 wr) (fun _ iv _ => F.length - (intOf iv).toNat)
  case atStart => exact ⟨0, by omega, rfl, World.ownsRow_nil _ _ _ _, Below.refl _ _⟩
  case round =>
    obtain ⟨i, hi, rfl, hown, hbel⟩ := hrel
    have HB := Lib.hid hbel
    have hsz := hbel.size
    obtain ⟨Am, cm, rfl, hmc, hcm, hsm⟩ := Mine.form (.inr hown)
    by_cases hlt : i < F.length
    · have hltI : (i : Int) < (F.length : Int) := by omega
      have hi0 : (0 : Int) ≤ (i : Int) := by omega
      obtain ⟨z, hz⟩ : ∃ z, F[i]? = some z := ⟨_, List.getElem?_eq_getElem hlt⟩
      obtain ⟨hz1, hz2⟩ := HFB.out z (List.mem_of_getElem? hz)
      obtain ⟨m, hm⟩ : ∃ m, m = (F.take i).map one := ⟨_, rfl⟩
      have hml : i = m.length := by rw [hm, List.length_map, List.length_take]; omega
      have HT := Lib.hid (ones_take hz)
      rw [← hm] at hown HT
      obtain ⟨b0, off, rfl, hbb, hcc⟩ := HS1.out.at (by omega) (by decide)
      have HC1 := Lib.hid ((Below.cell HB.out (p := ⟨b0, off + i, none⟩) hbb).trans (hcc i (.int .i64 z) (by rw [List.getElem?_map, hz]; rfl)))
      obtain ⟨B0, hB0⟩ : ∃ B0, B0 = w1.heap.size := ⟨_, rfl⟩
      have hb0 : b0 < B0 := by rw [hB0]; exact hbb
      rw [← hB0] at hown hsz
      have hm41 : m.length ≤ 1000000 := by omega
      clear hm
      subst hml
      have HO : Hid (wr.ownsRow B0 58 2 (.slice Am m.length cm) m.length (pcs m)) := Lib.hid hown
      have HB0 := Lib.hid hsz
      have HBE := Lib.hid hB0
      clear hz hcc hown hsm hB0
      go_wp2_with fail
      refine wp_region_e B0 HB0.out (by kernel_rfl) (fun d u w' => match d with
        | 6 => ∃ A c, u = .slice A (m.length + 1) c ∧ w'.ownsRow B0 58 2 u (m.length + 1) (pcs (m ++ [(z, z + 1)]))
        | 17 => u = (.slice Am m.length cm : Value)
        | 18 => u = (.slice (some ⟨b0, off, none⟩) F.length c5 : Value)
        | 19 => u = (.int .i64 (m.length : Int) : Value)
        | 20 => u = (.pointer (some ⟨b0, off + m.length, none⟩) : Value)
        | 21 => u = (.int .i64 z : Value)
        | 22 => u = (.slice (some ⟨b0, off, none⟩) F.length c5 : Value)
        | 23 => u = (.int .i64 (m.length : Int) : Value)
        | 24 => u = (.pointer (some ⟨b0, off + m.length, none⟩) : Value)
        | 25 => u = (.int .i64 z : Value)
        | 26 => u = (.int .i64 (z + 1) : Value)
        | 27 => u = (.agg #[.int .i64 z, .int .i64 (z + 1)] : Value)
        | 28 => ∃ g, u = .slice (some ⟨g, 0, none⟩) 1 1 ∧ B0 ≤ g ∧ g < w'.heap.size ∧ w'.cell? ⟨g, 0, none⟩ = some (.int .i64 z) ∧ w'.cell? ⟨g, 1, none⟩ = some (.int .i64 (z + 1))
        | 29 => ∃ A c, u = .slice A (m.length + 1) c ∧ w'.ownsRow B0 58 2 u (m.length + 1) (pcs (m ++ [(z, z + 1)]))
        | _ => True) 33 rfl (by decide +kernel) [6] 12 (fun w => w.ownsRow B0 58 2 (.slice Am m.length cm) m.length (pcs m)) HO.out (fun x y hk ho => own_keepP ho fun g hg => hk.block g (own_lt ho g hg).2) ?_ ?_
      · refine AllSteps.cons (StepE.move _ rfl rfl fun a w' hl => hl.early 13 6 rfl rfl) ?_
        refine AllSteps.cons (StepE.move _ rfl rfl fun a w' hl => hl.old 5 rfl) ?_
        refine AllSteps.cons (StepE.move _ rfl rfl fun a w' hl => hl.old 7 rfl) ?_
        refine AllSteps.cons (StepE.plain rfl fun a w' K hl hK => ?_) ?_
        · obtain ⟨_, _, _, h18⟩ := hl.dep 1 18 rfl rfl
          replace h18 : a.eval (.tmp 18) = _ := h18
          obtain ⟨_, _, _, h19⟩ := hl.dep 2 19 rfl rfl
          replace h19 : a.eval (.tmp 19) = _ := h19
          refine wp_val (.pointer (some ⟨b0, off + m.length, none⟩)) ?_ (hK _ _ (Kept.refl _) rfl)
          clear hl hK
          generalize a.eval = ρ at *
          simp [execOp, go_sem, h18, h19]
          try (intro h; omega)
        refine AllSteps.cons (StepE.plain rfl fun a w' K hl hK => ?_) ?_
        · obtain ⟨_, _, _, h20⟩ := hl.dep 3 20 rfl rfl
          replace h20 : a.eval (.tmp 20) = _ := h20
          have hcell := (Below.cell hl.kept (p := ⟨b0, off + m.length, none⟩) hb0).trans HC1.out
          refine wp_val (.int .i64 z) ?_ (hK _ _ (Kept.refl _) rfl)
          clear hl hK
          generalize a.eval = ρ at *
          simp [execOp, go_sem, h20, hcell]
        refine AllSteps.cons (StepE.move _ rfl rfl fun a w' hl => hl.old 5 rfl) ?_
        refine AllSteps.cons (StepE.move _ rfl rfl fun a w' hl => hl.old 7 rfl) ?_
        refine AllSteps.cons (StepE.plain rfl fun a w' K hl hK => ?_) ?_
        · obtain ⟨_, _, _, h22⟩ := hl.dep 5 22 rfl rfl
          replace h22 : a.eval (.tmp 22) = _ := h22
          obtain ⟨_, _, _, h23⟩ := hl.dep 6 23 rfl rfl
          replace h23 : a.eval (.tmp 23) = _ := h23
          refine wp_val (.pointer (some ⟨b0, off + m.length, none⟩)) ?_ (hK _ _ (Kept.refl _) rfl)
          clear hl hK
          generalize a.eval = ρ at *
          simp [execOp, go_sem, h22, h23]
          try (intro h; omega)
        refine AllSteps.cons (StepE.plain rfl fun a w' K hl hK => ?_) ?_
        · obtain ⟨_, _, _, h24⟩ := hl.dep 7 24 rfl rfl
          replace h24 : a.eval (.tmp 24) = _ := h24
          have hcell := (Below.cell hl.kept (p := ⟨b0, off + m.length, none⟩) hb0).trans HC1.out
          refine wp_val (.int .i64 z) ?_ (hK _ _ (Kept.refl _) rfl)
          clear hl hK
          generalize a.eval = ρ at *
          simp [execOp, go_sem, h24, hcell]
        refine AllSteps.cons (StepE.plain rfl fun a w' K hl hK => ?_) ?_
        · obtain ⟨_, _, _, h25⟩ := hl.dep 8 25 rfl rfl
          replace h25 : a.eval (.tmp 25) = _ := h25
          have hconst : ∀ x, a.eval (.const x) = x := fun _ => rfl
          refine wp_val (.int .i64 (z + 1)) ?_ (hK _ _ (Kept.refl _) rfl)
          clear hl hK
          generalize a.eval = ρ at *
          simp [execOp, go_sem, h25, hconst]
          rw [IntKind.wrap_i64]
          omega
        refine AllSteps.cons (StepE.plain rfl fun a w' K hl hK => ?_) ?_
        · obtain ⟨_, _, _, h21⟩ := hl.dep 4 21 rfl rfl
          replace h21 : a.eval (.tmp 21) = _ := h21
          obtain ⟨_, _, _, h26⟩ := hl.dep 9 26 rfl rfl
          replace h26 : a.eval (.tmp 26) = _ := h26
          refine wp_val (.agg #[.int .i64 z, .int .i64 (z + 1)]) ?_ (hK _ _ (Kept.refl _) rfl)
          clear hl hK
          generalize a.eval = ρ at *
          simp [execOp, go_sem, h21, h26]
        refine AllSteps.cons (StepE.plain rfl fun a w' K hl hK => ?_) ?_
        · obtain ⟨_, _, _, h27⟩ := hl.dep 10 27 rfl rfl
          replace h27 : a.eval (.tmp 27) = _ := h27
          exact wp_build_pair rfl h27 (hK _ _ (keptAlloc _ _) ⟨w'.heap.size, rfl, Nat.le_trans HB0.out hl.kept.size, by simp, (PRow.new _ _ _ _).c0, (PRow.new _ _ _ _).c1⟩)
        refine AllSteps.cons (StepE.raw rfl fun a w' K hl hK => ?_) ?_
        · obtain ⟨_, _, _, h17⟩ := hl.dep 0 17 rfl rfl
          replace h17 : a.eval (.tmp 17) = _ := h17
          obtain ⟨_, w1, hk1, g, h28, hg1, hg2, hg3, hg4⟩ := hl.dep 11 28 rfl rfl
          refine wp_append_pair rfl B0 (Nat.le_trans HB0.out hl.kept.size) h17 h28 (hl.still (.inl rfl)) ((Below.cell hk1 (p := ⟨g, 0, none⟩) hg2).trans hg3) ((Below.cell hk1 (p := ⟨g, 1, none⟩) hg2).trans hg4) hm41 (fun u wz hbo hb2 hne => hK u wz hb2 (fun d u' hd hlv hlt hsn => ?_) (.inl rfl) hbo)
          obtain ⟨w8, hk8, h8⟩ := hsn
          refine ⟨wz, Kept.refl _, ?_⟩
          by_cases h15 : d = 28
          · subst h15; exact absurd hlv (by decide +kernel)
          by_cases h16 : d = 29
          · subst h16; exact absurd rfl hd
          by_cases h3 : d = 6
          · subst h3; exact absurd hlt (by decide +kernel)
          clear hl hK hlv hlt hd
          dsimp only at h8 ⊢
          split at h8 <;> first | exact h8 | exact absurd rfl h15 | exact absurd rfl h16 | exact absurd rfl h3 | (split <;> first | trivial | (exfalso; simp_all))
        refine AllSteps.cons (StepE.assign _ rfl rfl fun a w' hl => let ⟨_, _, hk, h⟩ := hl.dep 12 29 rfl rfl; OneP.kept h hk) ?_
        exact AllSteps.nil
      · intro f w9 hk9 hf
        obtain ⟨w10, hk10, A6, c6, h3, ho3⟩ := hf 6 rfl rfl
        rw [h3] at ho3
        have HO9 := Lib.hid (own_keepP ho3 fun g hg => hk10.block g (own_lt ho3 g hg).2)
        simp only [fill, dsts, List.filterMap_cons, List.filterMap_nil, List.foldl_cons, List.foldl_nil, Act.put, h3, List.setIfInBounds_toArray, List.set_cons_succ, List.set_cons_zero]
        clear hf ho3 h3
        have HB9 := Lib.hid (HB.out.trans (by rw [← HBE.out]; exact hk9))
        clear hk9
        go_wp2_with fail
        go_roundw
        case rel => exact ⟨m.length + 1, by omega, by go_num, by rw [HT.out, ← HBE.out]; exact HO9.out, HB9.out⟩
        case measure => simp [intOf]; omega
    · have hge : (F.length : Int) ≤ (i : Int) := by omega
      obtain rfl : i = F.length := by omega
      have HSM : Hid (Sl wr wr.heap.size 2 Am (F.map one).length (pcs (F.map one))) := Lib.hid (by
        rw [List.take_of_length_le (Nat.le_refl _)] at hsm
        rw [List.length_map]
        exact hsm)
      have HN2 := Lib.hid (HN.out Am cm wr (by rw [← hFl]; exact HSM.out))
      clear hown hsm HSM
      go_wp2_with fail
      refine HN2.out.mono ?_
      rintro e w2 ⟨A7, c7, rfl, hs7, hb7⟩
      have HC2 := Lib.hid (HC.out A7 c7 w2 hs7)
      have HB7 := Lib.hid ((HB1.out.trans (HB.out.mono HB1.out.size)).trans (hb7.mono (Nat.le_trans HB1.out.size hsz)))
      clear hs7 hb7
      go_wp2_with fail
      refine HC2.out.mono ?_
      rintro e w3 ⟨A8, c8, rfl, hs8, hc8, hb8⟩
      go_wp2_with fail
      go_ret
      exact ⟨A8, c8, rfl, hs8, hc8, HB7.out.trans (hb8.mono HB7.out.size)⟩
end Go.Proofs.Ytipdaecihfkonaa.Bt
