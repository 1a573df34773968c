/-
  dir: few, Entries, SameEntries.
-/
import Derived.Test.YtifbbbphoponcaaDir5
import Derived.Laws.StructEq
namespace Go.Proofs.Ytifbbbphoponcaa.Dr
open Go.RowKit Wd
set_option linter.unusedVariables false

theorem infoEnt : (Try.prog.info? 40).map (fun i => (i.zero, i.size, i.bytes)) = some (some (.agg #[.string ByteArray.empty, .int .i64 0]), 2, 24) := by kernel_rfl
section
variable {Q : Exit → Act → World → Prop} {o : Oper}
theorem run_neq_ent (w : World) (x y : En) : (binOp .neq 40 (.agg #[.string x.1, .int .i64 x.2]) (.agg #[.string y.1, .int .i64 y.2])).run Try.prog w = .ok (.bool !(eqS x.1 y.1 && x.2 == y.2)) w := by
  unfold eqS
  simp [go_sem]
  by_cases h1 : x.fst.toList = y.fst.toList <;> by_cases h2 : x.snd = y.snd <;> simp [h1, h2]
theorem wp_neq_ent {a : Act} {w : World} {K : Act → World → Prop} {t' : TypeId} {p q : Operand} (ho : o.op = .binOp .neq 40 p q t') {x y : En} (hx : a.eval p = .agg #[.string x.1, .int .i64 x.2]) (hy : a.eval q = .agg #[.string y.1, .int .i64 y.2])
    (b : Bool) (hb : (eqS x.1 y.1 && x.2 == y.2) = b) (h : K (a.put o.dst (.bool !b)) w) : Oper.wp Try.prog o a w K Q := by
  subst hb
  refine wp_val _ ?_ h
  have hg : (eqGuard .neq 40 p q (.agg #[.string x.1, .int .i64 x.2]) (.agg #[.string y.1, .int .i64 y.2])).run Try.prog w = .ok () w := run_eqGuard_agg w .neq _ p q _ _ (by kernel_rfl)
  have hr := run_neq_ent w x y
  unfold execOp
  simp only [ho, hx, hy, hg, hr, Sem.run_bind, Sem.run_pure, Result.andThen_ok]
end
set_option maxHeartbeats 800000 in
theorem same_any (A1 A2 : Option Addr) (l : List En) (c1 c2 : Nat) (w : World) (hs1 : Sl w w.heap.size 2 A1 l.length (ecs l)) (hs2 : Sl w w.heap.size 2 A2 l.length (ecs l)) (hk : l.length ≤ 17592186044416) :
    Calls Try.prog 16 #[.slice A1 l.length c1, .slice A2 l.length c2] w fun e w' => e = .returned (.bool true) ∧ Below w.heap.size w w' := by
  have HS1 := Lib.hid hs1
  have HS2 := Lib.hid hs2
  clear hs1 hs2
  go_enter Try.func16, Try.ntmps16
  go_wp2_with fail
  go_loopw [5] (fun i wr => ∃ k : Nat, k ≤ l.length ∧ i = .int .i64 (k : Int) ∧ Below w.heap.size w wr) (fun i _ => l.length - (intOf i).toNat)
  case atStart => exact ⟨0, by omega, rfl, Below.refl _ _⟩
  case round =>
    obtain ⟨k, hk2, rfl, hbel⟩ := hrel
    have HB := Lib.hid hbel
    clear hbel
    by_cases hlt : k < l.length
    · have hltI : (k : Int) < (l.length : Int) := by omega
      have hk0 : (0 : Int) ≤ (k : Int) := by omega
      obtain ⟨x, hx⟩ : ∃ x, l[k]? = some x := ⟨_, List.getElem?_eq_getElem hlt⟩
      have hA : ∃ b off, A1 = some ⟨b, off, none⟩ := by
        obtain ⟨b, off, e, _⟩ := HS1.out.at (by omega) (by decide)
        exact ⟨b, off, e⟩
      obtain ⟨b1, o1, rfl⟩ := hA
      have hA : ∃ b off, A2 = some ⟨b, off, none⟩ := by
        obtain ⟨b, off, e, _⟩ := HS2.out.at (by omega) (by decide)
        exact ⟨b, off, e⟩
      obtain ⟨b2, o2, rfl⟩ := hA
      have HR1 := Lib.hid (range_keep (ent_range HS1.out hx).1 (HB.out.block _ (ent_range HS1.out hx).2))
      have HR2 := Lib.hid (range_keep (ent_range HS2.out hx).1 (HB.out.block _ (ent_range HS2.out hx).2))
      have hb1 := Nat.lt_of_lt_of_le (ent_range HS1.out hx).2 HB.out.size
      have hb2 := Nat.lt_of_lt_of_le (ent_range HS2.out hx).2 HB.out.size
      clear hx
      go_wp2_with fail
      refine wp_region_rely (by kernel_rfl) (fun d u w' => match d with
        | 17 => u = (.slice (some ⟨b1, o1, none⟩) l.length c1 : Value)
        | 18 => u = (.int .i64 (k : Int) : Value)
        | 19 => u = (.pointer (some ⟨b1, o1 + k * 2, none⟩) : Value)
        | 20 => u = (.agg #[.string x.1, .int .i64 x.2] : Value)
        | 21 => u = (.slice (some ⟨b2, o2, none⟩) l.length c2 : Value)
        | 22 => u = (.int .i64 (k : Int) : Value)
        | 23 => u = (.pointer (some ⟨b2, o2 + k * 2, none⟩) : Value)
        | 24 => u = (.agg #[.string x.1, .int .i64 x.2] : Value)
        | 25 => u = (.bool false : Value)
        | _ => True) 26 rfl (by decide +kernel) [25] ?_ ?_
      · refine AllSteps.cons (Step.move _ rfl rfl fun a w' hl => hl.old 0 rfl) ?_
        refine AllSteps.cons (Step.move _ rfl rfl fun a w' hl => hl.old 5 rfl) ?_
        refine AllSteps.cons (Step.plain rfl fun a w' K hl hK => ?_) ?_
        · obtain ⟨_, _, _, h17⟩ := hl.dep 0 17 rfl rfl
          replace h17 : a.eval (.tmp 17) = _ := h17
          obtain ⟨_, _, _, h18⟩ := hl.dep 1 18 rfl rfl
          replace h18 : a.eval (.tmp 18) = _ := h18
          refine wp_val (.pointer (some ⟨b1, o1 + k * 2, none⟩)) ?_ (hK _ _ (Kept.refl _) rfl)
          clear hl hK
          generalize a.eval = ρ at *
          simp [execOp, go_sem, h17, h18]
          try (intro h; omega)
        refine AllSteps.cons (Step.plain rfl fun a w' K hl hK => ?_) ?_
        · obtain ⟨_, _, _, h19⟩ := hl.dep 2 19 rfl rfl
          replace h19 : a.eval (.tmp 19) = _ := h19
          exact wp_load_ent _ rfl h19 (range_keep HR1.out (hl.kept.block _ hb1)) (hK _ _ (Kept.refl _) rfl)
        refine AllSteps.cons (Step.move _ rfl rfl fun a w' hl => hl.old 1 rfl) ?_
        refine AllSteps.cons (Step.move _ rfl rfl fun a w' hl => hl.old 5 rfl) ?_
        refine AllSteps.cons (Step.plain rfl fun a w' K hl hK => ?_) ?_
        · obtain ⟨_, _, _, h21⟩ := hl.dep 4 21 rfl rfl
          replace h21 : a.eval (.tmp 21) = _ := h21
          obtain ⟨_, _, _, h22⟩ := hl.dep 5 22 rfl rfl
          replace h22 : a.eval (.tmp 22) = _ := h22
          refine wp_val (.pointer (some ⟨b2, o2 + k * 2, none⟩)) ?_ (hK _ _ (Kept.refl _) rfl)
          clear hl hK
          generalize a.eval = ρ at *
          simp [execOp, go_sem, h21, h22]
          try (intro h; omega)
        refine AllSteps.cons (Step.plain rfl fun a w' K hl hK => ?_) ?_
        · obtain ⟨_, _, _, h23⟩ := hl.dep 6 23 rfl rfl
          replace h23 : a.eval (.tmp 23) = _ := h23
          exact wp_load_ent _ rfl h23 (range_keep HR2.out (hl.kept.block _ hb2)) (hK _ _ (Kept.refl _) rfl)
        refine AllSteps.cons (Step.plain rfl fun a w' K hl hK => ?_) ?_
        · obtain ⟨_, _, _, h20⟩ := hl.dep 3 20 rfl rfl
          replace h20 : a.eval (.tmp 20) = _ := h20
          obtain ⟨_, _, _, h24⟩ := hl.dep 7 24 rfl rfl
          replace h24 : a.eval (.tmp 24) = _ := h24
          exact wp_neq_ent rfl h20 h24 true (by rw [eqS_self]; simp) (hK _ _ (Kept.refl _) rfl)
        exact AllSteps.nil
      · intro f w9 hk9 hf
        obtain ⟨_, _, hres⟩ := hf 25 rfl rfl
        replace hres : f 25 = .bool false := hres
        simp only [Exit.then, fill, dsts, List.filterMap_cons, List.filterMap_nil, List.foldl_cons, List.foldl_nil, Act.put, hres, List.setIfInBounds_toArray, List.set_cons_succ, List.set_cons_zero]
        clear hf
        have HB9 := Lib.hid (HB.out.trans (Below.mono hk9 HB.out.size))
        clear hk9
        go_wp2_with fail
        go_roundw
        case rel => exact ⟨k + 1, by omega, by go_num, HB9.out⟩
        case measure => simp [intOf]; omega
    · have hge : (l.length : Int) ≤ (k : Int) := by omega
      go_wp2_with fail
      go_ret
      exact ⟨rfl, HB.out⟩
/-- entries' slice that a call hands back -/
def ResE (w : World) (l : List En) (e : Ending) (w' : World) : Prop :=
  ∃ A c, e = .returned (.slice A l.length c) ∧ Sl w' w'.heap.size 2 A l.length (ecs l) ∧ l.length ≤ c ∧ c ≤ maxLen ∧ Below w.heap.size w w'
theorem entries_any (A : Option Addr) (l : List En) (c : Nat) (w : World) (hs : Sl w w.heap.size 2 A l.length (ecs l)) (hk : l.length ≤ 1000000) :
    Calls Try.prog 12 #[.slice A l.length c] w (ResE w l) := by
  obtain ⟨i0, hi, hz0, hz1, hz2⟩ := info_parts infoEnt
  go_enter Try.func12, Try.ntmps12
  go_wp2_with (at_builtin; refine wpList_append_mine rfl _ (.tmp 3) _ _ rfl w.heap.size 40 i0 (.agg #[.string ByteArray.empty, .int .i64 0]) 2 24 hz1 hz2 rfl (by decide) _ _ _ rfl Mine.nil _ l.length (ecs l) rfl (Gives.slice Try.underlying22 hi hz0 (by rw [hz1]; exact hs) (ecs_one l)) (by simp only [maxLen]; omega) (by omega) (Nat.le_refl _) ?_; intro A3 c3 w3 hm3 hg3 hb3 hat3 hown3)
  go_ret
  rw [List.nil_append] at hm3
  obtain ⟨A4, c4, hv, hc4, hm4, hs4⟩ := hm3.form
  injection hv with hv1 hv2 hv3
  subst hv1; subst hv3
  rw [Nat.zero_add] at hc4 hs4
  exact ⟨A3, c3, rfl, hs4, hc4, hm4, hb3⟩
def fewB (l : List En) : Bool := decide (l.length ≤ 80) && l.all fun x => decide (x.1.size ≤ 300)
theorem few_any (A : Option Addr) (l : List En) (c : Nat) (w : World) (hs : Sl w w.heap.size 2 A l.length (ecs l)) (hg : ∀ x ∈ l, goodE x) (hk : l.length ≤ 17592186044416) :
    Calls Try.prog 9 #[.slice A l.length c] w fun e w' => e = .returned (.bool (fewB l)) ∧ w = w' := by
  have HS := Lib.hid hs
  have HG := Lib.hid hg
  clear hs hg
  by_cases hbig : 80 < l.length
  · have hbigI : (80 : Int) < (l.length : Int) := by omega
    have HF : Hid (fewB l = false) := by
      show _ = _
      unfold fewB
      rw [decide_eq_false (by omega), Bool.false_and]
    go_enter Try.func9, Try.ntmps9
    go_wp2_with fail
    go_ret
    exact ⟨by rw [HF.out]; rfl, rfl⟩
  · have hbigI : (l.length : Int) ≤ 80 := by omega
    have HW : Hid (fewB l = l.all fun x => decide (x.1.size ≤ 300)) := by
      show _ = _
      unfold fewB
      rw [decide_eq_true (by omega), Bool.true_and]
    go_enter Try.func9, Try.ntmps9
    go_wp2_with fail
    go_loop [3] (fun i => ∃ k : Nat, k ≤ l.length ∧ i = .int .i64 (k : Int) ∧ ((l.take k).all fun x => decide (x.1.size ≤ 300)) = true) (fun i => l.length - (intOf i).toNat)
    case atStart => exact ⟨0, by omega, rfl, rfl⟩
    case round =>
      obtain ⟨k, hk2, rfl, hf⟩ := hrel
      have HF := Lib.hid hf
      clear hf
      by_cases hlt : k < l.length
      · have hltI : (k : Int) < (l.length : Int) := by omega
        have hk0 : (0 : Int) ≤ (k : Int) := by omega
        obtain ⟨x, hx⟩ : ∃ x, l[k]? = some x := ⟨_, List.getElem?_eq_getElem hlt⟩
        have hA : ∃ b off, A = some ⟨b, off, none⟩ := by
          obtain ⟨b, off, e, _⟩ := HS.out.at (by omega) (by decide)
          exact ⟨b, off, e⟩
        obtain ⟨b, off, rfl⟩ := hA
        have hc0 := range_name (ent_range HS.out hx).1
        have hxm := List.mem_of_getElem? hx
        have hx63 := (HG.out x hxm).1
        have HX := Lib.hid hx
        have HXM := Lib.hid hxm
        clear hx hxm
        by_cases hb : x.1.size ≤ 300
        · have hbI : (x.1.size : Int) ≤ 300 := by omega
          have HN : Hid (((l.take (k + 1)).all fun x => decide (x.1.size ≤ 300)) = true) := by
            show _ = _
            rw [List.take_add_one, HX.out, List.all_append, HF.out]
            simpa using hb
          go_wp2_with fail
          go_round
          case rel => exact ⟨k + 1, by omega, by go_num, HN.out⟩
          case measure => simp [intOf]; omega
        · have hbI : (300 : Int) < (x.1.size : Int) := by omega
          have HN : Hid (fewB l = false) := by
            show _ = _
            rw [HW.out, List.all_eq_false]
            exact ⟨x, HXM.out, by simpa using hb⟩
          go_wp2_with fail
          go_ret
          exact ⟨by rw [HN.out]; rfl, rfl⟩
      · have hge : (l.length : Int) ≤ (k : Int) := by omega
        have HN : Hid (fewB l = true) := by
          show _ = _
          rw [HW.out, ← List.take_of_length_le (l := l) (i := k) (by omega)]
          exact HF.out
        go_wp2_with fail
        go_ret
        exact ⟨by rw [HN.out]; rfl, rfl⟩
end Go.Proofs.Ytifbbbphoponcaa.Dr
