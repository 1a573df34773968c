/-
  dir: Check, and the document's.
-/
import Derived.Test.YtifbbbphoponcaaDir3
import Derived.Test.YtifbbbphoponcaaRely
import Derived.Laws.Cover1
namespace Go.Proofs.Ytifbbbphoponcaa.Dr
open Go.RowKit Wd
set_option linter.unusedVariables false

theorem infoE : (Try.prog.info? 40).map (·.size) = some 2 := by kernel_rfl
theorem ent_range {w : World} {B n b off : Nat} {l : List En} (h : Sl w B 2 (some ⟨b, off, none⟩) n (ecs l)) {k : Nat} {x : En} (hk : l[k]? = some x) : w.rangeAt b (off + k * 2) [.string x.1, .int .i64 x.2] ∧ b < B := by
  have hl := (List.getElem?_eq_some_iff.1 hk).1
  have hn : n = l.length := by have := h.1; rw [ecs_len] at this; omega
  obtain ⟨ad, e, hb, hc⟩ := h.2 (by omega)
  injection e with e
  subst e
  obtain ⟨h0, h1⟩ := ecs_at l k x hk
  refine ⟨fun j v hj => ?_, hb⟩
  match j, hj with
  | 0, hj =>
    injection hj with hj
    subst hj
    have := hc _ _ h0
    rwa [Addr.add_lit] at this
  | 1, hj =>
    injection hj with hj
    subst hj
    have := hc _ _ h1
    rw [Addr.add_lit] at this
    rwa [← Nat.add_assoc] at this
theorem range_keep {w w' : World} {b o : Nat} {cs : List Value} (h : w.rangeAt b o cs) (hk : w'.heap[b]? = w.heap[b]?) : w'.rangeAt b o cs := fun j v hj => (World.cell?_of_block (w := w) hk).trans (h j v hj)
theorem range_new (w : World) (x : En) (t : TypeId) : (w.alloc (.cells #[.string x.1, .int .i64 x.2] t)).rangeAt w.heap.size 0 [.string x.1, .int .i64 x.2] := fun j v hj => by
  rw [cell_of_row _ _ _ _ _ (0, 0) (heap_alloc_new w _)]
  simpa using hj
theorem range_name {w : World} {b o : Nat} {x : En} (h : w.rangeAt b o [.string x.1, .int .i64 x.2]) : w.cell? ⟨b, o, none⟩ = some (.string x.1) := h 0 _ rfl
theorem range_ino {w : World} {b o : Nat} {x : En} (h : w.rangeAt b o [.string x.1, .int .i64 x.2]) : w.cell? ⟨b, o + 1, none⟩ = some (.int .i64 x.2) := h 1 _ rfl
section
variable {P : Program} {Q : Exit → Act → World → Prop} {o : Oper}
theorem wp_leq_str {a : Act} {w : World} {K : Act → World → Prop} {t t' : TypeId} {x y : Operand} (ho : o.op = .binOp .leq t x y t') {p q : ByteArray} (hx : a.eval x = .string p) (hy : a.eval y = .string q)
    (b : Bool) (hb : le p q = b) (h : K (a.put o.dst (.bool b)) w) : Oper.wp P o a w K Q := by
  subst hb
  refine wp_val _ ?_ h
  have hg : (eqGuard .leq t x y (.string p) (.string q)).run P w = .ok () w := rfl
  unfold execOp
  simp [ho, hx, hy, hg, binOp_string_leq, le]
end
section
variable {ops : Array Oper} {Q : Exit → Act → World → Prop} {a : Act} {w : World} {rest : List Oper} {o : Oper}
theorem wp_load_ent {K : Act → World → Prop} (x : Operand) (ho : o.op = .load 40 x) {b off : Nat} {y : En} (hx : a.eval x = .pointer (some ⟨b, off, none⟩)) (hr : w.rangeAt b off [.string y.1, .int .i64 y.2])
    (h : K (a.put o.dst (.agg #[.string y.1, .int .i64 y.2])) w) : Oper.wp Try.prog o a w K Q :=
  wp_load_mid 40 x ho b off hx _ _ hr Try.underlying40 rfl infoE h
theorem wpList_load_ent (hg : o.guard = none) (x : Operand) (ho : o.op = .load 40 x) {b off : Nat} {y : En} (hx : a.eval x = .pointer (some ⟨b, off, none⟩)) (hr : w.rangeAt b off [.string y.1, .int .i64 y.2])
    (h : wpList Try.prog ops Q rest (a.put o.dst (.agg #[.string y.1, .int .i64 y.2])) w) : wpList Try.prog ops Q (o :: rest) a w :=
  wpList_load_mid hg 40 x ho b off hx _ _ hr Try.underlying40 rfl infoE h
end
theorem check_step {l : List En} {k : Nat} {x : En} (h : l[k]? = some x) (hok : okTo l k = true) :
    (mayB x = false → checkB l = false) ∧ (mayB x = true → k = 0 → okTo l (k + 1) = true) ∧
    ∀ y, l[k - 1]? = some y → mayB x = true → 0 < k → (le x.1 y.1 = true → checkB l = false) ∧ (le x.1 y.1 = false → okTo l (k + 1) = true) := by
  have hlt := (List.getElem?_eq_some_iff.1 h).1
  have hd := getD_at h (ByteArray.empty, 0)
  refine ⟨fun hm => ?_, fun hm h0 => ?_, fun y hy hm h0 => ?_⟩
  · unfold checkB
    rw [okTo_no (m := k) (by unfold okA; rw [hd, hm]; rfl) hlt]
    rfl
  · rw [okTo_succ, hok]
    unfold okA
    rw [hd, hm, h0]
    rfl
  · have hyd := getD_at hy (ByteArray.empty, 0)
    have h0b : (k == 0) = false := by simp; omega
    rw [le_not]
    refine ⟨fun hc => ?_, fun hc => ?_⟩
    · unfold checkB
      rw [okTo_no (m := k) (by unfold okA; rw [hd, hyd, hm, h0b]; simpa using hc) hlt]
      rfl
    · rw [okTo_succ, hok]
      unfold okA
      rw [hd, hyd, hm, h0b]
      simpa using hc

set_option maxHeartbeats 1600000 in
theorem check_any (A : Option Addr) (l : List En) (c : Nat) (w : World) (hs : Sl w w.heap.size 2 A l.length (ecs l)) (hg : ∀ x ∈ l, goodE x) (hk : l.length ≤ 17592186044416) :
    Calls Try.prog 19 #[.slice A l.length c] w fun e w' => e = .returned (.bool (checkB l)) ∧ Below w.heap.size w w' := by
  have HS := Lib.hid hs
  have HG := Lib.hid hg
  clear hs hg
  go_enter Try.func19, Try.ntmps19
  go_wp2_with fail
  go_loopw [7] (fun i wr => ∃ k : Nat, k ≤ l.length ∧ i = .int .i64 (k : Int) ∧ okTo l k = true ∧ Below w.heap.size w wr) (fun i _ => l.length - (intOf i).toNat)
  case atStart => exact ⟨0, by omega, rfl, rfl, Below.refl _ _⟩
  case round =>
    obtain ⟨k, hk2, rfl, hok, hbel⟩ := hrel
    have HOK := Lib.hid hok
    have HB := Lib.hid hbel
    clear hok hbel
    by_cases hlt : k < l.length
    · have hltI : (k : Int) < (l.length : Int) := by omega
      have hk0 : (0 : Int) ≤ (k : Int) := by omega
      obtain ⟨x, hx⟩ : ∃ x, l[k]? = some x := ⟨_, List.getElem?_eq_getElem hlt⟩
      have hgx := HG.out x (List.mem_of_getElem? hx)
      have HM := Lib.hid (fun w => may_any x hgx w)
      unfold ev at HM
      have hst := check_step hx HOK.out
      have hA : ∃ b off, A = some ⟨b, off, none⟩ := by
        obtain ⟨b, off, e, _⟩ := HS.out.at (by omega) (by decide)
        exact ⟨b, off, e⟩
      obtain ⟨b, off, rfl⟩ := hA
      obtain ⟨hrx0, hb0⟩ := ent_range HS.out hx
      have hrx := range_keep hrx0 (HB.out.block b hb0)
      have hbr : b < wr.heap.size := Nat.lt_of_lt_of_le hb0 HB.out.size
      have HRX0 := Lib.hid hrx
      have HST := Lib.hid hst
      clear hst hrx0 hgx
      cases hm : mayB x
      · have HF : Hid (checkB l = false) := Lib.hid (HST.out.1 hm)
        rw [hm] at HM
        clear hm hx HST
        go_wp2_with ((with_reducible show wpList _ _ _ (⟨some 11, _, _, _, _, _⟩ :: _) _ _); refine wpList_load_ent rfl _ rfl rfl hrx ?_)
        obtain ⟨w2, hw2⟩ : ∃ w2 : World, w2 = wr.alloc (.cells #[.string x.1, .int .i64 x.2] 40) := ⟨_, rfl⟩
        obtain ⟨g, hg0⟩ : ∃ g, g = wr.heap.size := ⟨_, rfl⟩
        have hrg := range_new wr x 40
        have hg : g < w2.heap.size := by rw [hw2, hg0]; simp
        have hb2 : Below wr.heap.size wr w2 := by rw [hw2]; exact (Below.refl _ _).alloc (Nat.le_refl _) _
        rw [← hw2, ← hg0] at hrg
        rw [← hw2, ← hg0]
        have HRG := Lib.hid hrg
        have HB2 := Lib.hid (HB.out.trans (Below.mono hb2 HB.out.size))
        have HRX := Lib.hid (range_keep hrx (hb2.block b hbr))
        clear hw2 hg0 hrg
        have hbb : b < w2.heap.size := Nat.lt_of_lt_of_le hbr hb2.size
        refine wp_region_rely (by kernel_rfl) (fun d u w' => match d with
          | 12 => u = (.agg #[.string x.1, .int .i64 x.2] : Value)
          | 13 => u = (.bool false : Value)
          | 14 => u = (.bool true : Value)
          | 15 => u = (.bool true : Value)
          | 16 => u = (Go.undef : Value)
          | 17 => u = (Go.undef : Value)
          | 18 => u = (Go.undef : Value)
          | 19 => u = (Go.undef : Value)
          | 20 => u = (Go.undef : Value)
          | 21 => u = (Go.undef : Value)
          | 22 => u = (Go.undef : Value)
          | 23 => u = (Go.undef : Value)
          | 24 => u = (Go.undef : Value)
          | 25 => u = (Go.undef : Value)
          | 26 => u = (Go.undef : Value)
          | 27 => u = (Go.undef : Value)
          | 28 => u = (Go.undef : Value)
          | 29 => u = (.bool true : Value)
          | _ => True) 34 rfl (by decide +kernel) [29] ?_ ?_
        · refine AllSteps.cons (Step.plain rfl fun a w' K hl hK => ?_) ?_
          · have h4 : a.eval (.tmp 4) = (.pointer (some ⟨g, 0, none⟩) : Value) := hl.old 4 rfl
            have h4 : a.eval (.tmp 4) = (.pointer (some ⟨g, 0, none⟩) : Value) := hl.old 4 rfl
            exact wp_load_ent _ rfl h4 (range_keep HRG.out (hl.kept.block _ hg)) (hK _ _ (Kept.refl _) rfl)
          refine AllSteps.cons (Step.plain rfl fun a w' K hl hK => ?_) ?_
          · obtain ⟨_, _, _, h12⟩ := hl.dep 0 12 rfl rfl
            replace h12 : a.eval (.tmp 12) = _ := h12
            refine wp_call rfl Try.func40 rfl rfl #[.agg #[.string x.1, .int .i64 x.2]] (by simp [h12]) ?_
            refine (HM.out w').mono ?_
            rintro e w8 ⟨rfl, hb8⟩
            exact ⟨_, rfl, hK _ _ hb8 rfl⟩
          refine AllSteps.cons (Step.plain rfl fun a w' K hl hK => ?_) ?_
          · obtain ⟨_, _, _, h13⟩ := hl.dep 1 13 rfl rfl
            replace h13 : a.eval (.tmp 13) = _ := h13
            refine wp_val (.bool true) ?_ (hK _ _ (Kept.refl _) rfl)
            clear hl hK
            generalize a.eval = ρ at *
            simp [execOp, go_sem, h13]
          refine AllSteps.cons (Step.move _ rfl rfl fun a w' hl => let ⟨_, _, _, h⟩ := hl.dep 2 14 rfl rfl; h) ?_
          refine AllSteps.cons (Step.no 3 false 15 rfl rfl rfl (fun u w h => by rw [show u = (.bool true : Value) from h]; intro h'; cases h') (fun _ => rfl)) ?_
          refine AllSteps.cons (Step.no 3 false 15 rfl rfl rfl (fun u w h => by rw [show u = (.bool true : Value) from h]; intro h'; cases h') (fun _ => rfl)) ?_
          refine AllSteps.cons (Step.no 3 false 15 rfl rfl rfl (fun u w h => by rw [show u = (.bool true : Value) from h]; intro h'; cases h') (fun _ => rfl)) ?_
          refine AllSteps.cons (Step.no 6 true 18 rfl rfl rfl (fun u w h => by rw [show u = (Go.undef : Value) from h]; intro h'; cases h') (fun _ => rfl)) ?_
          refine AllSteps.cons (Step.no 6 true 18 rfl rfl rfl (fun u w h => by rw [show u = (Go.undef : Value) from h]; intro h'; cases h') (fun _ => rfl)) ?_
          refine AllSteps.cons (Step.no 6 true 18 rfl rfl rfl (fun u w h => by rw [show u = (Go.undef : Value) from h]; intro h'; cases h') (fun _ => rfl)) ?_
          refine AllSteps.cons (Step.no 6 true 18 rfl rfl rfl (fun u w h => by rw [show u = (Go.undef : Value) from h]; intro h'; cases h') (fun _ => rfl)) ?_
          refine AllSteps.cons (Step.no 6 true 18 rfl rfl rfl (fun u w h => by rw [show u = (Go.undef : Value) from h]; intro h'; cases h') (fun _ => rfl)) ?_
          refine AllSteps.cons (Step.no 6 true 18 rfl rfl rfl (fun u w h => by rw [show u = (Go.undef : Value) from h]; intro h'; cases h') (fun _ => rfl)) ?_
          refine AllSteps.cons (Step.no 6 true 18 rfl rfl rfl (fun u w h => by rw [show u = (Go.undef : Value) from h]; intro h'; cases h') (fun _ => rfl)) ?_
          refine AllSteps.cons (Step.no 6 true 18 rfl rfl rfl (fun u w h => by rw [show u = (Go.undef : Value) from h]; intro h'; cases h') (fun _ => rfl)) ?_
          refine AllSteps.cons (Step.no 6 true 18 rfl rfl rfl (fun u w h => by rw [show u = (Go.undef : Value) from h]; intro h'; cases h') (fun _ => rfl)) ?_
          refine AllSteps.cons (Step.no 3 false 15 rfl rfl rfl (fun u w h => by rw [show u = (.bool true : Value) from h]; intro h'; cases h') (fun _ => rfl)) ?_
          refine AllSteps.cons (Step.plain rfl fun a w' K hl hK => ?_) ?_
          · obtain ⟨_, _, _, h15⟩ := hl.dep 3 15 rfl rfl
            replace h15 : a.eval (.tmp 15) = _ := h15
            obtain ⟨_, _, _, h28⟩ := hl.dep 16 28 rfl rfl
            replace h28 : a.eval (.tmp 28) = _ := h28
            exact wp_pick rfl true h15 (hK _ _ (Kept.refl _) rfl)
          exact AllSteps.nil
        · intro f w9 hk9 hf
          obtain ⟨_, _, hres⟩ := hf 29 rfl rfl
          replace hres : f 29 = .bool true := hres
          simp only [Exit.then, fill, dsts, List.filterMap_cons, List.filterMap_nil, List.foldl_cons, List.foldl_nil, Act.put, hres, List.setIfInBounds_toArray, List.set_cons_succ, List.set_cons_zero]
          clear hf
          have HB9 := Lib.hid (HB2.out.trans (Below.mono hk9 HB2.out.size))
          clear hk9
          go_wp2_with fail
          go_ret
          exact ⟨by rw [HF.out]; rfl, HB9.out⟩
      · rw [hm] at HM
        by_cases h0 : k = 0
        · have hkp : ¬ (0 : Int) < (k : Int) := by omega
          have HN := Lib.hid (HST.out.2.1 hm h0)
          clear hm hx HST h0
          go_wp2_with ((with_reducible show wpList _ _ _ (⟨some 11, _, _, _, _, _⟩ :: _) _ _); refine wpList_load_ent rfl _ rfl rfl hrx ?_)
          obtain ⟨w2, hw2⟩ : ∃ w2 : World, w2 = wr.alloc (.cells #[.string x.1, .int .i64 x.2] 40) := ⟨_, rfl⟩
          obtain ⟨g, hg0⟩ : ∃ g, g = wr.heap.size := ⟨_, rfl⟩
          have hrg := range_new wr x 40
          have hg : g < w2.heap.size := by rw [hw2, hg0]; simp
          have hb2 : Below wr.heap.size wr w2 := by rw [hw2]; exact (Below.refl _ _).alloc (Nat.le_refl _) _
          rw [← hw2, ← hg0] at hrg
          rw [← hw2, ← hg0]
          have HRG := Lib.hid hrg
          have HB2 := Lib.hid (HB.out.trans (Below.mono hb2 HB.out.size))
          have HRX := Lib.hid (range_keep hrx (hb2.block b hbr))
          clear hw2 hg0 hrg
          have hbb : b < w2.heap.size := Nat.lt_of_lt_of_le hbr hb2.size
          refine wp_region_rely (by kernel_rfl) (fun d u w' => match d with
            | 12 => u = (.agg #[.string x.1, .int .i64 x.2] : Value)
            | 13 => u = (.bool true : Value)
            | 14 => u = (.bool false : Value)
            | 15 => u = (.bool false : Value)
            | 16 => u = (.int .i64 (k : Int) : Value)
            | 17 => u = (.bool false : Value)
            | 18 => u = (.bool false : Value)
            | 19 => u = (Go.undef : Value)
            | 20 => u = (Go.undef : Value)
            | 21 => u = (Go.undef : Value)
            | 22 => u = (Go.undef : Value)
            | 23 => u = (Go.undef : Value)
            | 24 => u = (Go.undef : Value)
            | 25 => u = (Go.undef : Value)
            | 26 => u = (Go.undef : Value)
            | 27 => u = (Go.undef : Value)
            | 28 => u = (.bool false : Value)
            | 29 => u = (.bool false : Value)
            | _ => True) 34 rfl (by decide +kernel) [29] ?_ ?_
          · refine AllSteps.cons (Step.plain rfl fun a w' K hl hK => ?_) ?_
            · have h4 : a.eval (.tmp 4) = (.pointer (some ⟨g, 0, none⟩) : Value) := hl.old 4 rfl
              have h4 : a.eval (.tmp 4) = (.pointer (some ⟨g, 0, none⟩) : Value) := hl.old 4 rfl
              exact wp_load_ent _ rfl h4 (range_keep HRG.out (hl.kept.block _ hg)) (hK _ _ (Kept.refl _) rfl)
            refine AllSteps.cons (Step.plain rfl fun a w' K hl hK => ?_) ?_
            · obtain ⟨_, _, _, h12⟩ := hl.dep 0 12 rfl rfl
              replace h12 : a.eval (.tmp 12) = _ := h12
              refine wp_call rfl Try.func40 rfl rfl #[.agg #[.string x.1, .int .i64 x.2]] (by simp [h12]) ?_
              refine (HM.out w').mono ?_
              rintro e w8 ⟨rfl, hb8⟩
              exact ⟨_, rfl, hK _ _ hb8 rfl⟩
            refine AllSteps.cons (Step.plain rfl fun a w' K hl hK => ?_) ?_
            · obtain ⟨_, _, _, h13⟩ := hl.dep 1 13 rfl rfl
              replace h13 : a.eval (.tmp 13) = _ := h13
              refine wp_val (.bool false) ?_ (hK _ _ (Kept.refl _) rfl)
              clear hl hK
              generalize a.eval = ρ at *
              simp [execOp, go_sem, h13]
            refine AllSteps.cons (Step.move _ rfl rfl fun a w' hl => let ⟨_, _, _, h⟩ := hl.dep 2 14 rfl rfl; h) ?_
            refine AllSteps.cons (Step.yes 3 false 15 rfl rfl rfl (fun _ _ h => h) fun a w' K hl hK => ?_) ?_
            · have h3 : a.eval (.tmp 3) = (.int .i64 (k : Int) : Value) := hl.old 3 rfl
              exact wp_val (a.eval (.tmp 3)) rfl (hK _ _ (Kept.refl _) h3)
            refine AllSteps.cons (Step.yes 3 false 15 rfl rfl rfl (fun _ _ h => h) fun a w' K hl hK => ?_) ?_
            · obtain ⟨_, _, _, h16⟩ := hl.dep 4 16 rfl rfl
              replace h16 : a.eval (.tmp 16) = _ := h16
              have hconst : ∀ x, a.eval (.const x) = x := fun _ => rfl
              refine wp_val (.bool false) ?_ (hK _ _ (Kept.refl _) rfl)
              clear hl hK
              generalize a.eval = ρ at *
              simp [execOp, go_sem, h16, hconst]
              try omega
            refine AllSteps.cons (Step.yes 3 false 15 rfl rfl rfl (fun _ _ h => h) fun a w' K hl hK => ?_) ?_
            · obtain ⟨_, _, _, h17⟩ := hl.dep 5 17 rfl rfl
              replace h17 : a.eval (.tmp 17) = _ := h17
              exact wp_val (a.eval (.tmp 17)) rfl (hK _ _ (Kept.refl _) h17)
            refine AllSteps.cons (Step.no 6 true 18 rfl rfl rfl (fun u w h => by rw [show u = (.bool false : Value) from h]; intro h'; cases h') (fun _ => rfl)) ?_
            refine AllSteps.cons (Step.no 6 true 18 rfl rfl rfl (fun u w h => by rw [show u = (.bool false : Value) from h]; intro h'; cases h') (fun _ => rfl)) ?_
            refine AllSteps.cons (Step.no 6 true 18 rfl rfl rfl (fun u w h => by rw [show u = (.bool false : Value) from h]; intro h'; cases h') (fun _ => rfl)) ?_
            refine AllSteps.cons (Step.no 6 true 18 rfl rfl rfl (fun u w h => by rw [show u = (.bool false : Value) from h]; intro h'; cases h') (fun _ => rfl)) ?_
            refine AllSteps.cons (Step.no 6 true 18 rfl rfl rfl (fun u w h => by rw [show u = (.bool false : Value) from h]; intro h'; cases h') (fun _ => rfl)) ?_
            refine AllSteps.cons (Step.no 6 true 18 rfl rfl rfl (fun u w h => by rw [show u = (.bool false : Value) from h]; intro h'; cases h') (fun _ => rfl)) ?_
            refine AllSteps.cons (Step.no 6 true 18 rfl rfl rfl (fun u w h => by rw [show u = (.bool false : Value) from h]; intro h'; cases h') (fun _ => rfl)) ?_
            refine AllSteps.cons (Step.no 6 true 18 rfl rfl rfl (fun u w h => by rw [show u = (.bool false : Value) from h]; intro h'; cases h') (fun _ => rfl)) ?_
            refine AllSteps.cons (Step.no 6 true 18 rfl rfl rfl (fun u w h => by rw [show u = (.bool false : Value) from h]; intro h'; cases h') (fun _ => rfl)) ?_
            refine AllSteps.cons (Step.yes 3 false 15 rfl rfl rfl (fun _ _ h => h) fun a w' K hl hK => ?_) ?_
            · obtain ⟨_, _, _, h18⟩ := hl.dep 6 18 rfl rfl
              replace h18 : a.eval (.tmp 18) = _ := h18
              obtain ⟨_, _, _, h27⟩ := hl.dep 15 27 rfl rfl
              replace h27 : a.eval (.tmp 27) = _ := h27
              exact wp_pick rfl false h18 (hK _ _ (Kept.refl _) rfl)
            refine AllSteps.cons (Step.plain rfl fun a w' K hl hK => ?_) ?_
            · obtain ⟨_, _, _, h15⟩ := hl.dep 3 15 rfl rfl
              replace h15 : a.eval (.tmp 15) = _ := h15
              obtain ⟨_, _, _, h28⟩ := hl.dep 16 28 rfl rfl
              replace h28 : a.eval (.tmp 28) = _ := h28
              exact wp_pick rfl false h15 (hK _ _ (Kept.refl _) h28)
            exact AllSteps.nil
          · intro f w9 hk9 hf
            obtain ⟨_, _, hres⟩ := hf 29 rfl rfl
            replace hres : f 29 = .bool false := hres
            simp only [Exit.then, fill, dsts, List.filterMap_cons, List.filterMap_nil, List.foldl_cons, List.foldl_nil, Act.put, hres, List.setIfInBounds_toArray, List.set_cons_succ, List.set_cons_zero]
            clear hf
            have HB9 := Lib.hid (HB2.out.trans (Below.mono hk9 HB2.out.size))
            clear hk9
            go_wp2_with fail
            go_roundw
            case rel => exact ⟨k + 1, by omega, by go_num, HN.out, HB9.out⟩
            case measure => simp [intOf]; omega
        · have hkp : (0 : Int) < (k : Int) := by omega
          obtain ⟨y, hy⟩ : ∃ y, l[k - 1]? = some y := ⟨_, List.getElem?_eq_getElem (by omega)⟩
          obtain ⟨k1, hk1e⟩ : ∃ k1, k1 = k - 1 := ⟨_, rfl⟩
          have hk1 : (k : Int) - 1 = (k1 : Int) := by omega
          have hk1l : (k1 : Int) < (l.length : Int) := by omega
          have hk10 : (0 : Int) ≤ (k1 : Int) := by omega
          have HC := Lib.hid (HST.out.2.2 y hy hm (by omega))
          rw [← hk1e] at hy
          have hry := range_keep (ent_range HS.out hy).1 (HB.out.block b hb0)
          have HRY0 := Lib.hid hry
          clear hm hx HST h0 hy hk1e hry
          cases hle : le x.1 y.1
          · have HN := Lib.hid (HC.out.2 hle)
            have HLE := Lib.hid hle
            clear hle HC
            go_wp2_with ((with_reducible show wpList _ _ _ (⟨some 11, _, _, _, _, _⟩ :: _) _ _); refine wpList_load_ent rfl _ rfl rfl hrx ?_)
            obtain ⟨w2, hw2⟩ : ∃ w2 : World, w2 = wr.alloc (.cells #[.string x.1, .int .i64 x.2] 40) := ⟨_, rfl⟩
            obtain ⟨g, hg0⟩ : ∃ g, g = wr.heap.size := ⟨_, rfl⟩
            have hrg := range_new wr x 40
            have hg : g < w2.heap.size := by rw [hw2, hg0]; simp
            have hb2 : Below wr.heap.size wr w2 := by rw [hw2]; exact (Below.refl _ _).alloc (Nat.le_refl _) _
            rw [← hw2, ← hg0] at hrg
            rw [← hw2, ← hg0]
            have HRG := Lib.hid hrg
            have HB2 := Lib.hid (HB.out.trans (Below.mono hb2 HB.out.size))
            have HRX := Lib.hid (range_keep hrx (hb2.block b hbr))
            clear hw2 hg0 hrg
            have HRY := Lib.hid (range_keep HRY0.out (hb2.block b hbr))
            have hbb : b < w2.heap.size := Nat.lt_of_lt_of_le hbr hb2.size
            refine wp_region_rely (by kernel_rfl) (fun d u w' => match d with
              | 12 => u = (.agg #[.string x.1, .int .i64 x.2] : Value)
              | 13 => u = (.bool true : Value)
              | 14 => u = (.bool false : Value)
              | 15 => u = (.bool false : Value)
              | 16 => u = (.int .i64 (k : Int) : Value)
              | 17 => u = (.bool true : Value)
              | 18 => u = (.bool true : Value)
              | 19 => u = (.pointer (some ⟨g, 0, none⟩) : Value)
              | 20 => u = (.string x.1 : Value)
              | 21 => u = (.slice (some ⟨b, off, none⟩) l.length c : Value)
              | 22 => u = (.int .i64 (k : Int) : Value)
              | 23 => u = (.int .i64 ((k1 : Nat) : Int) : Value)
              | 24 => u = (.pointer (some ⟨b, off + k1 * 2, none⟩) : Value)
              | 25 => u = (.pointer (some ⟨b, off + k1 * 2, none⟩) : Value)
              | 26 => u = (.string y.1 : Value)
              | 27 => u = (.bool false : Value)
              | 28 => u = (.bool false : Value)
              | 29 => u = (.bool false : Value)
              | _ => True) 34 rfl (by decide +kernel) [29] ?_ ?_
            · refine AllSteps.cons (Step.plain rfl fun a w' K hl hK => ?_) ?_
              · have h4 : a.eval (.tmp 4) = (.pointer (some ⟨g, 0, none⟩) : Value) := hl.old 4 rfl
                have h4 : a.eval (.tmp 4) = (.pointer (some ⟨g, 0, none⟩) : Value) := hl.old 4 rfl
                exact wp_load_ent _ rfl h4 (range_keep HRG.out (hl.kept.block _ hg)) (hK _ _ (Kept.refl _) rfl)
              refine AllSteps.cons (Step.plain rfl fun a w' K hl hK => ?_) ?_
              · obtain ⟨_, _, _, h12⟩ := hl.dep 0 12 rfl rfl
                replace h12 : a.eval (.tmp 12) = _ := h12
                refine wp_call rfl Try.func40 rfl rfl #[.agg #[.string x.1, .int .i64 x.2]] (by simp [h12]) ?_
                refine (HM.out w').mono ?_
                rintro e w8 ⟨rfl, hb8⟩
                exact ⟨_, rfl, hK _ _ hb8 rfl⟩
              refine AllSteps.cons (Step.plain rfl fun a w' K hl hK => ?_) ?_
              · obtain ⟨_, _, _, h13⟩ := hl.dep 1 13 rfl rfl
                replace h13 : a.eval (.tmp 13) = _ := h13
                refine wp_val (.bool false) ?_ (hK _ _ (Kept.refl _) rfl)
                clear hl hK
                generalize a.eval = ρ at *
                simp [execOp, go_sem, h13]
              refine AllSteps.cons (Step.move _ rfl rfl fun a w' hl => let ⟨_, _, _, h⟩ := hl.dep 2 14 rfl rfl; h) ?_
              refine AllSteps.cons (Step.yes 3 false 15 rfl rfl rfl (fun _ _ h => h) fun a w' K hl hK => ?_) ?_
              · have h3 : a.eval (.tmp 3) = (.int .i64 (k : Int) : Value) := hl.old 3 rfl
                exact wp_val (a.eval (.tmp 3)) rfl (hK _ _ (Kept.refl _) h3)
              refine AllSteps.cons (Step.yes 3 false 15 rfl rfl rfl (fun _ _ h => h) fun a w' K hl hK => ?_) ?_
              · obtain ⟨_, _, _, h16⟩ := hl.dep 4 16 rfl rfl
                replace h16 : a.eval (.tmp 16) = _ := h16
                have hconst : ∀ x, a.eval (.const x) = x := fun _ => rfl
                refine wp_val (.bool true) ?_ (hK _ _ (Kept.refl _) rfl)
                clear hl hK
                generalize a.eval = ρ at *
                simp [execOp, go_sem, h16, hconst]
                try omega
              refine AllSteps.cons (Step.yes 3 false 15 rfl rfl rfl (fun _ _ h => h) fun a w' K hl hK => ?_) ?_
              · obtain ⟨_, _, _, h17⟩ := hl.dep 5 17 rfl rfl
                replace h17 : a.eval (.tmp 17) = _ := h17
                exact wp_val (a.eval (.tmp 17)) rfl (hK _ _ (Kept.refl _) h17)
              refine AllSteps.cons (Step.yes 6 true 18 rfl rfl rfl (fun _ _ h => h) fun a w' K hl hK => ?_) ?_
              · have h4 : a.eval (.tmp 4) = (.pointer (some ⟨g, 0, none⟩) : Value) := hl.old 4 rfl
                refine wp_val (.pointer (some ⟨g, 0, none⟩)) ?_ (hK _ _ (Kept.refl _) rfl)
                clear hl hK
                generalize a.eval = ρ at *
                simp [execOp, go_sem, h4]
                try (intro h; omega)
              refine AllSteps.cons (Step.yes 6 true 18 rfl rfl rfl (fun _ _ h => h) fun a w' K hl hK => ?_) ?_
              · obtain ⟨_, _, _, h19⟩ := hl.dep 7 19 rfl rfl
                replace h19 : a.eval (.tmp 19) = _ := h19
                have hcell := range_name (range_keep HRG.out (hl.kept.block _ hg))
                refine wp_val (.string x.1) ?_ (hK _ _ (Kept.refl _) rfl)
                clear hl hK
                generalize a.eval = ρ at *
                simp [execOp, go_sem, h19, hcell]
              refine AllSteps.cons (Step.yes 6 true 18 rfl rfl rfl (fun _ _ h => h) fun a w' K hl hK => ?_) ?_
              · have h0 : a.eval (.tmp 0) = (.slice (some ⟨b, off, none⟩) l.length c : Value) := hl.old 0 rfl
                exact wp_val (a.eval (.tmp 0)) rfl (hK _ _ (Kept.refl _) h0)
              refine AllSteps.cons (Step.yes 6 true 18 rfl rfl rfl (fun _ _ h => h) fun a w' K hl hK => ?_) ?_
              · have h3 : a.eval (.tmp 3) = (.int .i64 (k : Int) : Value) := hl.old 3 rfl
                exact wp_val (a.eval (.tmp 3)) rfl (hK _ _ (Kept.refl _) h3)
              refine AllSteps.cons (Step.yes 6 true 18 rfl rfl rfl (fun _ _ h => h) fun a w' K hl hK => ?_) ?_
              · obtain ⟨_, _, _, h22⟩ := hl.dep 10 22 rfl rfl
                replace h22 : a.eval (.tmp 22) = _ := h22
                have hconst : ∀ x, a.eval (.const x) = x := fun _ => rfl
                refine wp_val (.int .i64 ((k1 : Nat) : Int)) ?_ (hK _ _ (Kept.refl _) rfl)
                clear hl hK
                generalize a.eval = ρ at *
                simp [execOp, go_sem, h22, hconst, hk1]
                rw [IntKind.wrap_i64]
                omega
              refine AllSteps.cons (Step.yes 6 true 18 rfl rfl rfl (fun _ _ h => h) fun a w' K hl hK => ?_) ?_
              · obtain ⟨_, _, _, h21⟩ := hl.dep 9 21 rfl rfl
                replace h21 : a.eval (.tmp 21) = _ := h21
                obtain ⟨_, _, _, h23⟩ := hl.dep 11 23 rfl rfl
                replace h23 : a.eval (.tmp 23) = _ := h23
                refine wp_val (.pointer (some ⟨b, off + k1 * 2, none⟩)) ?_ (hK _ _ (Kept.refl _) rfl)
                clear hl hK
                generalize a.eval = ρ at *
                simp [execOp, go_sem, h21, h23]
                try (intro h; omega)
              refine AllSteps.cons (Step.yes 6 true 18 rfl rfl rfl (fun _ _ h => h) fun a w' K hl hK => ?_) ?_
              · obtain ⟨_, _, _, h24⟩ := hl.dep 12 24 rfl rfl
                replace h24 : a.eval (.tmp 24) = _ := h24
                refine wp_val (.pointer (some ⟨b, off + k1 * 2, none⟩)) ?_ (hK _ _ (Kept.refl _) rfl)
                clear hl hK
                generalize a.eval = ρ at *
                simp [execOp, go_sem, h24]
                try (intro h; omega)
              refine AllSteps.cons (Step.yes 6 true 18 rfl rfl rfl (fun _ _ h => h) fun a w' K hl hK => ?_) ?_
              · obtain ⟨_, _, _, h25⟩ := hl.dep 13 25 rfl rfl
                replace h25 : a.eval (.tmp 25) = _ := h25
                have hcell := range_name (range_keep HRY.out (hl.kept.block _ hbb))
                refine wp_val (.string y.1) ?_ (hK _ _ (Kept.refl _) rfl)
                clear hl hK
                generalize a.eval = ρ at *
                simp [execOp, go_sem, h25, hcell]
              refine AllSteps.cons (Step.yes 6 true 18 rfl rfl rfl (fun _ _ h => h) fun a w' K hl hK => ?_) ?_
              · obtain ⟨_, _, _, h20⟩ := hl.dep 8 20 rfl rfl
                replace h20 : a.eval (.tmp 20) = _ := h20
                obtain ⟨_, _, _, h26⟩ := hl.dep 14 26 rfl rfl
                replace h26 : a.eval (.tmp 26) = _ := h26
                exact wp_leq_str rfl h20 h26 _ HLE.out (hK _ _ (Kept.refl _) rfl)
              refine AllSteps.cons (Step.yes 3 false 15 rfl rfl rfl (fun _ _ h => h) fun a w' K hl hK => ?_) ?_
              · obtain ⟨_, _, _, h18⟩ := hl.dep 6 18 rfl rfl
                replace h18 : a.eval (.tmp 18) = _ := h18
                obtain ⟨_, _, _, h27⟩ := hl.dep 15 27 rfl rfl
                replace h27 : a.eval (.tmp 27) = _ := h27
                exact wp_pick rfl true h18 (hK _ _ (Kept.refl _) h27)
              refine AllSteps.cons (Step.plain rfl fun a w' K hl hK => ?_) ?_
              · obtain ⟨_, _, _, h15⟩ := hl.dep 3 15 rfl rfl
                replace h15 : a.eval (.tmp 15) = _ := h15
                obtain ⟨_, _, _, h28⟩ := hl.dep 16 28 rfl rfl
                replace h28 : a.eval (.tmp 28) = _ := h28
                exact wp_pick rfl false h15 (hK _ _ (Kept.refl _) h28)
              exact AllSteps.nil
            · intro f w9 hk9 hf
              obtain ⟨_, _, hres⟩ := hf 29 rfl rfl
              replace hres : f 29 = .bool false := hres
              simp only [Exit.then, fill, dsts, List.filterMap_cons, List.filterMap_nil, List.foldl_cons, List.foldl_nil, Act.put, hres, List.setIfInBounds_toArray, List.set_cons_succ, List.set_cons_zero]
              clear hf
              have HB9 := Lib.hid (HB2.out.trans (Below.mono hk9 HB2.out.size))
              clear hk9
              go_wp2_with fail
              go_roundw
              case rel => exact ⟨k + 1, by omega, by go_num, HN.out, HB9.out⟩
              case measure => simp [intOf]; omega
          · have HF := Lib.hid (HC.out.1 hle)
            have HLE := Lib.hid hle
            clear hle HC
            go_wp2_with ((with_reducible show wpList _ _ _ (⟨some 11, _, _, _, _, _⟩ :: _) _ _); refine wpList_load_ent rfl _ rfl rfl hrx ?_)
            obtain ⟨w2, hw2⟩ : ∃ w2 : World, w2 = wr.alloc (.cells #[.string x.1, .int .i64 x.2] 40) := ⟨_, rfl⟩
            obtain ⟨g, hg0⟩ : ∃ g, g = wr.heap.size := ⟨_, rfl⟩
            have hrg := range_new wr x 40
            have hg : g < w2.heap.size := by rw [hw2, hg0]; simp
            have hb2 : Below wr.heap.size wr w2 := by rw [hw2]; exact (Below.refl _ _).alloc (Nat.le_refl _) _
            rw [← hw2, ← hg0] at hrg
            rw [← hw2, ← hg0]
            have HRG := Lib.hid hrg
            have HB2 := Lib.hid (HB.out.trans (Below.mono hb2 HB.out.size))
            have HRX := Lib.hid (range_keep hrx (hb2.block b hbr))
            clear hw2 hg0 hrg
            have HRY := Lib.hid (range_keep HRY0.out (hb2.block b hbr))
            have hbb : b < w2.heap.size := Nat.lt_of_lt_of_le hbr hb2.size
            refine wp_region_rely (by kernel_rfl) (fun d u w' => match d with
              | 12 => u = (.agg #[.string x.1, .int .i64 x.2] : Value)
              | 13 => u = (.bool true : Value)
              | 14 => u = (.bool false : Value)
              | 15 => u = (.bool false : Value)
              | 16 => u = (.int .i64 (k : Int) : Value)
              | 17 => u = (.bool true : Value)
              | 18 => u = (.bool true : Value)
              | 19 => u = (.pointer (some ⟨g, 0, none⟩) : Value)
              | 20 => u = (.string x.1 : Value)
              | 21 => u = (.slice (some ⟨b, off, none⟩) l.length c : Value)
              | 22 => u = (.int .i64 (k : Int) : Value)
              | 23 => u = (.int .i64 ((k1 : Nat) : Int) : Value)
              | 24 => u = (.pointer (some ⟨b, off + k1 * 2, none⟩) : Value)
              | 25 => u = (.pointer (some ⟨b, off + k1 * 2, none⟩) : Value)
              | 26 => u = (.string y.1 : Value)
              | 27 => u = (.bool true : Value)
              | 28 => u = (.bool true : Value)
              | 29 => u = (.bool true : Value)
              | _ => True) 34 rfl (by decide +kernel) [29] ?_ ?_
            · refine AllSteps.cons (Step.plain rfl fun a w' K hl hK => ?_) ?_
              · have h4 : a.eval (.tmp 4) = (.pointer (some ⟨g, 0, none⟩) : Value) := hl.old 4 rfl
                have h4 : a.eval (.tmp 4) = (.pointer (some ⟨g, 0, none⟩) : Value) := hl.old 4 rfl
                exact wp_load_ent _ rfl h4 (range_keep HRG.out (hl.kept.block _ hg)) (hK _ _ (Kept.refl _) rfl)
              refine AllSteps.cons (Step.plain rfl fun a w' K hl hK => ?_) ?_
              · obtain ⟨_, _, _, h12⟩ := hl.dep 0 12 rfl rfl
                replace h12 : a.eval (.tmp 12) = _ := h12
                refine wp_call rfl Try.func40 rfl rfl #[.agg #[.string x.1, .int .i64 x.2]] (by simp [h12]) ?_
                refine (HM.out w').mono ?_
                rintro e w8 ⟨rfl, hb8⟩
                exact ⟨_, rfl, hK _ _ hb8 rfl⟩
              refine AllSteps.cons (Step.plain rfl fun a w' K hl hK => ?_) ?_
              · obtain ⟨_, _, _, h13⟩ := hl.dep 1 13 rfl rfl
                replace h13 : a.eval (.tmp 13) = _ := h13
                refine wp_val (.bool false) ?_ (hK _ _ (Kept.refl _) rfl)
                clear hl hK
                generalize a.eval = ρ at *
                simp [execOp, go_sem, h13]
              refine AllSteps.cons (Step.move _ rfl rfl fun a w' hl => let ⟨_, _, _, h⟩ := hl.dep 2 14 rfl rfl; h) ?_
              refine AllSteps.cons (Step.yes 3 false 15 rfl rfl rfl (fun _ _ h => h) fun a w' K hl hK => ?_) ?_
              · have h3 : a.eval (.tmp 3) = (.int .i64 (k : Int) : Value) := hl.old 3 rfl
                exact wp_val (a.eval (.tmp 3)) rfl (hK _ _ (Kept.refl _) h3)
              refine AllSteps.cons (Step.yes 3 false 15 rfl rfl rfl (fun _ _ h => h) fun a w' K hl hK => ?_) ?_
              · obtain ⟨_, _, _, h16⟩ := hl.dep 4 16 rfl rfl
                replace h16 : a.eval (.tmp 16) = _ := h16
                have hconst : ∀ x, a.eval (.const x) = x := fun _ => rfl
                refine wp_val (.bool true) ?_ (hK _ _ (Kept.refl _) rfl)
                clear hl hK
                generalize a.eval = ρ at *
                simp [execOp, go_sem, h16, hconst]
                try omega
              refine AllSteps.cons (Step.yes 3 false 15 rfl rfl rfl (fun _ _ h => h) fun a w' K hl hK => ?_) ?_
              · obtain ⟨_, _, _, h17⟩ := hl.dep 5 17 rfl rfl
                replace h17 : a.eval (.tmp 17) = _ := h17
                exact wp_val (a.eval (.tmp 17)) rfl (hK _ _ (Kept.refl _) h17)
              refine AllSteps.cons (Step.yes 6 true 18 rfl rfl rfl (fun _ _ h => h) fun a w' K hl hK => ?_) ?_
              · have h4 : a.eval (.tmp 4) = (.pointer (some ⟨g, 0, none⟩) : Value) := hl.old 4 rfl
                refine wp_val (.pointer (some ⟨g, 0, none⟩)) ?_ (hK _ _ (Kept.refl _) rfl)
                clear hl hK
                generalize a.eval = ρ at *
                simp [execOp, go_sem, h4]
                try (intro h; omega)
              refine AllSteps.cons (Step.yes 6 true 18 rfl rfl rfl (fun _ _ h => h) fun a w' K hl hK => ?_) ?_
              · obtain ⟨_, _, _, h19⟩ := hl.dep 7 19 rfl rfl
                replace h19 : a.eval (.tmp 19) = _ := h19
                have hcell := range_name (range_keep HRG.out (hl.kept.block _ hg))
                refine wp_val (.string x.1) ?_ (hK _ _ (Kept.refl _) rfl)
                clear hl hK
                generalize a.eval = ρ at *
                simp [execOp, go_sem, h19, hcell]
              refine AllSteps.cons (Step.yes 6 true 18 rfl rfl rfl (fun _ _ h => h) fun a w' K hl hK => ?_) ?_
              · have h0 : a.eval (.tmp 0) = (.slice (some ⟨b, off, none⟩) l.length c : Value) := hl.old 0 rfl
                exact wp_val (a.eval (.tmp 0)) rfl (hK _ _ (Kept.refl _) h0)
              refine AllSteps.cons (Step.yes 6 true 18 rfl rfl rfl (fun _ _ h => h) fun a w' K hl hK => ?_) ?_
              · have h3 : a.eval (.tmp 3) = (.int .i64 (k : Int) : Value) := hl.old 3 rfl
                exact wp_val (a.eval (.tmp 3)) rfl (hK _ _ (Kept.refl _) h3)
              refine AllSteps.cons (Step.yes 6 true 18 rfl rfl rfl (fun _ _ h => h) fun a w' K hl hK => ?_) ?_
              · obtain ⟨_, _, _, h22⟩ := hl.dep 10 22 rfl rfl
                replace h22 : a.eval (.tmp 22) = _ := h22
                have hconst : ∀ x, a.eval (.const x) = x := fun _ => rfl
                refine wp_val (.int .i64 ((k1 : Nat) : Int)) ?_ (hK _ _ (Kept.refl _) rfl)
                clear hl hK
                generalize a.eval = ρ at *
                simp [execOp, go_sem, h22, hconst, hk1]
                rw [IntKind.wrap_i64]
                omega
              refine AllSteps.cons (Step.yes 6 true 18 rfl rfl rfl (fun _ _ h => h) fun a w' K hl hK => ?_) ?_
              · obtain ⟨_, _, _, h21⟩ := hl.dep 9 21 rfl rfl
                replace h21 : a.eval (.tmp 21) = _ := h21
                obtain ⟨_, _, _, h23⟩ := hl.dep 11 23 rfl rfl
                replace h23 : a.eval (.tmp 23) = _ := h23
                refine wp_val (.pointer (some ⟨b, off + k1 * 2, none⟩)) ?_ (hK _ _ (Kept.refl _) rfl)
                clear hl hK
                generalize a.eval = ρ at *
                simp [execOp, go_sem, h21, h23]
                try (intro h; omega)
              refine AllSteps.cons (Step.yes 6 true 18 rfl rfl rfl (fun _ _ h => h) fun a w' K hl hK => ?_) ?_
              · obtain ⟨_, _, _, h24⟩ := hl.dep 12 24 rfl rfl
                replace h24 : a.eval (.tmp 24) = _ := h24
                refine wp_val (.pointer (some ⟨b, off + k1 * 2, none⟩)) ?_ (hK _ _ (Kept.refl _) rfl)
                clear hl hK
                generalize a.eval = ρ at *
                simp [execOp, go_sem, h24]
                try (intro h; omega)
              refine AllSteps.cons (Step.yes 6 true 18 rfl rfl rfl (fun _ _ h => h) fun a w' K hl hK => ?_) ?_
              · obtain ⟨_, _, _, h25⟩ := hl.dep 13 25 rfl rfl
                replace h25 : a.eval (.tmp 25) = _ := h25
                have hcell := range_name (range_keep HRY.out (hl.kept.block _ hbb))
                refine wp_val (.string y.1) ?_ (hK _ _ (Kept.refl _) rfl)
                clear hl hK
                generalize a.eval = ρ at *
                simp [execOp, go_sem, h25, hcell]
              refine AllSteps.cons (Step.yes 6 true 18 rfl rfl rfl (fun _ _ h => h) fun a w' K hl hK => ?_) ?_
              · obtain ⟨_, _, _, h20⟩ := hl.dep 8 20 rfl rfl
                replace h20 : a.eval (.tmp 20) = _ := h20
                obtain ⟨_, _, _, h26⟩ := hl.dep 14 26 rfl rfl
                replace h26 : a.eval (.tmp 26) = _ := h26
                exact wp_leq_str rfl h20 h26 _ HLE.out (hK _ _ (Kept.refl _) rfl)
              refine AllSteps.cons (Step.yes 3 false 15 rfl rfl rfl (fun _ _ h => h) fun a w' K hl hK => ?_) ?_
              · obtain ⟨_, _, _, h18⟩ := hl.dep 6 18 rfl rfl
                replace h18 : a.eval (.tmp 18) = _ := h18
                obtain ⟨_, _, _, h27⟩ := hl.dep 15 27 rfl rfl
                replace h27 : a.eval (.tmp 27) = _ := h27
                exact wp_pick rfl true h18 (hK _ _ (Kept.refl _) h27)
              refine AllSteps.cons (Step.plain rfl fun a w' K hl hK => ?_) ?_
              · obtain ⟨_, _, _, h15⟩ := hl.dep 3 15 rfl rfl
                replace h15 : a.eval (.tmp 15) = _ := h15
                obtain ⟨_, _, _, h28⟩ := hl.dep 16 28 rfl rfl
                replace h28 : a.eval (.tmp 28) = _ := h28
                exact wp_pick rfl false h15 (hK _ _ (Kept.refl _) h28)
              exact AllSteps.nil
            · intro f w9 hk9 hf
              obtain ⟨_, _, hres⟩ := hf 29 rfl rfl
              replace hres : f 29 = .bool true := hres
              simp only [Exit.then, fill, dsts, List.filterMap_cons, List.filterMap_nil, List.foldl_cons, List.foldl_nil, Act.put, hres, List.setIfInBounds_toArray, List.set_cons_succ, List.set_cons_zero]
              clear hf
              have HB9 := Lib.hid (HB2.out.trans (Below.mono hk9 HB2.out.size))
              clear hk9
              go_wp2_with fail
              go_ret
              exact ⟨by rw [HF.out]; rfl, HB9.out⟩
    · have hge : (l.length : Int) ≤ (k : Int) := by omega
      obtain rfl : k = l.length := by omega
      have HF : Hid (checkB l = decide ((l.length : Int) ≤ 64)) := by
        show _ = _
        unfold checkB
        rw [HOK.out, Bool.true_and]
        congr 1
        apply propext
        omega
      go_wp2_with fail
      go_ret
      exact ⟨by rw [HF.out]; rfl, HB.out⟩

set_option maxHeartbeats 1600000 in
theorem rcheck_any (A : Option Addr) (l : List En) (c : Nat) (w : World) (hs : Sl w w.heap.size 2 A l.length (ecs l)) (hg : ∀ x ∈ l, goodE x) (hk : l.length ≤ 17592186044416) :
    Calls Try.prog 13 #[.slice A l.length c] w fun e w' => e = .returned (.bool (checkB l)) ∧ Below w.heap.size w w' := by
  have HS := Lib.hid hs
  have HG := Lib.hid hg
  clear hs hg
  by_cases hbig : 64 < l.length
  · have hbigI : (64 : Int) < (l.length : Int) := by omega
    have HF : Hid (checkB l = false) := by
      show _ = _
      unfold checkB
      rw [decide_eq_false (by omega), Bool.and_false]
    go_enter Try.func13, Try.ntmps13
    go_wp2_with fail
    go_ret
    exact ⟨by rw [HF.out]; rfl, Below.refl _ _⟩
  have hbigI : (l.length : Int) ≤ 64 := by omega
  go_enter Try.func13, Try.ntmps13
  go_wp2_with fail
  go_loopw [3] (fun i wr => ∃ k : Nat, k ≤ l.length ∧ i = .int .i64 (k : Int) ∧ okTo l k = true ∧ Below w.heap.size w wr) (fun i _ => l.length - (intOf i).toNat)
  case atStart => exact ⟨0, by omega, rfl, rfl, Below.refl _ _⟩
  case round =>
    obtain ⟨k, hk2, rfl, hok, hbel⟩ := hrel
    have HOK := Lib.hid hok
    have HB := Lib.hid hbel
    clear hok hbel
    by_cases hlt : k < l.length
    · have hltI : (k : Int) < (l.length : Int) := by omega
      have hk0 : (0 : Int) ≤ (k : Int) := by omega
      obtain ⟨x, hx⟩ : ∃ x, l[k]? = some x := ⟨_, List.getElem?_eq_getElem hlt⟩
      have hgx := HG.out x (List.mem_of_getElem? hx)
      have HM := Lib.hid (fun w => entry_any x hgx w)
      unfold ev at HM
      have hst := check_step hx HOK.out
      have hA : ∃ b off, A = some ⟨b, off, none⟩ := by
        obtain ⟨b, off, e, _⟩ := HS.out.at (by omega) (by decide)
        exact ⟨b, off, e⟩
      obtain ⟨b, off, rfl⟩ := hA
      obtain ⟨hrx0, hb0⟩ := ent_range HS.out hx
      have hrx := range_keep hrx0 (HB.out.block b hb0)
      have hbr : b < wr.heap.size := Nat.lt_of_lt_of_le hb0 HB.out.size
      have HRX0 := Lib.hid hrx
      have HST := Lib.hid hst
      clear hst hrx0 hgx
      have HRX := HRX0
      clear hrx
      have HB2 := HB
      have hbb := hbr
      cases hm : mayB x
      · have HF : Hid (checkB l = false) := Lib.hid (HST.out.1 hm)
        rw [hm] at HM
        clear hm hx HST
        go_wp2_with fail
        refine wp_region_rely (by kernel_rfl) (fun d u w' => match d with
          | 13 => u = (.slice (some ⟨b, off, none⟩) l.length c : Value)
          | 14 => u = (.int .i64 (k : Int) : Value)
          | 15 => u = (.pointer (some ⟨b, off + k * 2, none⟩) : Value)
          | 16 => u = (.agg #[.string x.1, .int .i64 x.2] : Value)
          | 17 => u = (.bool false : Value)
          | 18 => u = (.bool true : Value)
          | 19 => u = (.bool true : Value)
          | 20 => u = (Go.undef : Value)
          | 21 => u = (Go.undef : Value)
          | 22 => u = (Go.undef : Value)
          | 23 => u = (Go.undef : Value)
          | 24 => u = (Go.undef : Value)
          | 25 => u = (Go.undef : Value)
          | 26 => u = (Go.undef : Value)
          | 27 => u = (Go.undef : Value)
          | 28 => u = (Go.undef : Value)
          | 29 => u = (Go.undef : Value)
          | 30 => u = (Go.undef : Value)
          | 31 => u = (Go.undef : Value)
          | 32 => u = (Go.undef : Value)
          | 33 => u = (Go.undef : Value)
          | 34 => u = (Go.undef : Value)
          | 35 => u = (Go.undef : Value)
          | 36 => u = (.bool true : Value)
          | _ => True) 37 rfl (by decide +kernel) [36] ?_ ?_
        · refine AllSteps.cons (Step.move _ rfl rfl fun a w' hl => hl.old 0 rfl) ?_
          refine AllSteps.cons (Step.move _ rfl rfl fun a w' hl => hl.old 3 rfl) ?_
          refine AllSteps.cons (Step.plain rfl fun a w' K hl hK => ?_) ?_
          · obtain ⟨_, _, _, h13⟩ := hl.dep 0 13 rfl rfl
            replace h13 : a.eval (.tmp 13) = _ := h13
            obtain ⟨_, _, _, h14⟩ := hl.dep 1 14 rfl rfl
            replace h14 : a.eval (.tmp 14) = _ := h14
            refine wp_val (.pointer (some ⟨b, off + k * 2, none⟩)) ?_ (hK _ _ (Kept.refl _) rfl)
            clear hl hK
            generalize a.eval = ρ at *
            simp [execOp, go_sem, h13, h14]
            try (intro h; omega)
          refine AllSteps.cons (Step.plain rfl fun a w' K hl hK => ?_) ?_
          · obtain ⟨_, _, _, h15⟩ := hl.dep 2 15 rfl rfl
            replace h15 : a.eval (.tmp 15) = _ := h15
            exact wp_load_ent _ rfl h15 (range_keep HRX.out (hl.kept.block _ hbb)) (hK _ _ (Kept.refl _) rfl)
          refine AllSteps.cons (Step.plain rfl fun a w' K hl hK => ?_) ?_
          · obtain ⟨_, _, _, h16⟩ := hl.dep 3 16 rfl rfl
            replace h16 : a.eval (.tmp 16) = _ := h16
            refine wp_call rfl Try.func32 rfl rfl #[.agg #[.string x.1, .int .i64 x.2]] (by simp [h16]) ?_
            refine (HM.out w').mono ?_
            rintro e w8 ⟨rfl, hb8⟩
            exact ⟨_, rfl, hK _ _ hb8 rfl⟩
          refine AllSteps.cons (Step.plain rfl fun a w' K hl hK => ?_) ?_
          · obtain ⟨_, _, _, h17⟩ := hl.dep 4 17 rfl rfl
            replace h17 : a.eval (.tmp 17) = _ := h17
            refine wp_val (.bool true) ?_ (hK _ _ (Kept.refl _) rfl)
            clear hl hK
            generalize a.eval = ρ at *
            simp [execOp, go_sem, h17]
          refine AllSteps.cons (Step.move _ rfl rfl fun a w' hl => let ⟨_, _, _, h⟩ := hl.dep 5 18 rfl rfl; h) ?_
          refine AllSteps.cons (Step.no 6 false 19 rfl rfl rfl (fun u w h => by rw [show u = (.bool true : Value) from h]; intro h'; cases h') (fun _ => rfl)) ?_
          refine AllSteps.cons (Step.no 6 false 19 rfl rfl rfl (fun u w h => by rw [show u = (.bool true : Value) from h]; intro h'; cases h') (fun _ => rfl)) ?_
          refine AllSteps.cons (Step.no 6 false 19 rfl rfl rfl (fun u w h => by rw [show u = (.bool true : Value) from h]; intro h'; cases h') (fun _ => rfl)) ?_
          refine AllSteps.cons (Step.no 9 true 22 rfl rfl rfl (fun u w h => by rw [show u = (Go.undef : Value) from h]; intro h'; cases h') (fun _ => rfl)) ?_
          refine AllSteps.cons (Step.no 9 true 22 rfl rfl rfl (fun u w h => by rw [show u = (Go.undef : Value) from h]; intro h'; cases h') (fun _ => rfl)) ?_
          refine AllSteps.cons (Step.no 9 true 22 rfl rfl rfl (fun u w h => by rw [show u = (Go.undef : Value) from h]; intro h'; cases h') (fun _ => rfl)) ?_
          refine AllSteps.cons (Step.no 9 true 22 rfl rfl rfl (fun u w h => by rw [show u = (Go.undef : Value) from h]; intro h'; cases h') (fun _ => rfl)) ?_
          refine AllSteps.cons (Step.no 9 true 22 rfl rfl rfl (fun u w h => by rw [show u = (Go.undef : Value) from h]; intro h'; cases h') (fun _ => rfl)) ?_
          refine AllSteps.cons (Step.no 9 true 22 rfl rfl rfl (fun u w h => by rw [show u = (Go.undef : Value) from h]; intro h'; cases h') (fun _ => rfl)) ?_
          refine AllSteps.cons (Step.no 9 true 22 rfl rfl rfl (fun u w h => by rw [show u = (Go.undef : Value) from h]; intro h'; cases h') (fun _ => rfl)) ?_
          refine AllSteps.cons (Step.no 9 true 22 rfl rfl rfl (fun u w h => by rw [show u = (Go.undef : Value) from h]; intro h'; cases h') (fun _ => rfl)) ?_
          refine AllSteps.cons (Step.no 9 true 22 rfl rfl rfl (fun u w h => by rw [show u = (Go.undef : Value) from h]; intro h'; cases h') (fun _ => rfl)) ?_
          refine AllSteps.cons (Step.no 9 true 22 rfl rfl rfl (fun u w h => by rw [show u = (Go.undef : Value) from h]; intro h'; cases h') (fun _ => rfl)) ?_
          refine AllSteps.cons (Step.no 9 true 22 rfl rfl rfl (fun u w h => by rw [show u = (Go.undef : Value) from h]; intro h'; cases h') (fun _ => rfl)) ?_
          refine AllSteps.cons (Step.no 9 true 22 rfl rfl rfl (fun u w h => by rw [show u = (Go.undef : Value) from h]; intro h'; cases h') (fun _ => rfl)) ?_
          refine AllSteps.cons (Step.no 6 false 19 rfl rfl rfl (fun u w h => by rw [show u = (.bool true : Value) from h]; intro h'; cases h') (fun _ => rfl)) ?_
          refine AllSteps.cons (Step.plain rfl fun a w' K hl hK => ?_) ?_
          · obtain ⟨_, _, _, h19⟩ := hl.dep 6 19 rfl rfl
            replace h19 : a.eval (.tmp 19) = _ := h19
            obtain ⟨_, _, _, h35⟩ := hl.dep 22 35 rfl rfl
            replace h35 : a.eval (.tmp 35) = _ := h35
            exact wp_pick rfl true h19 (hK _ _ (Kept.refl _) rfl)
          exact AllSteps.nil
        · intro f w9 hk9 hf
          obtain ⟨_, _, hres⟩ := hf 36 rfl rfl
          replace hres : f 36 = .bool true := hres
          simp only [Exit.then, fill, dsts, List.filterMap_cons, List.filterMap_nil, List.foldl_cons, List.foldl_nil, Act.put, hres, List.setIfInBounds_toArray, List.set_cons_succ, List.set_cons_zero]
          clear hf
          have HB9 := Lib.hid (HB2.out.trans (Below.mono hk9 HB2.out.size))
          clear hk9
          go_wp2_with fail
          go_ret
          exact ⟨by rw [HF.out]; rfl, HB9.out⟩
      · rw [hm] at HM
        by_cases h0 : k = 0
        · have hkp : ¬ (0 : Int) < (k : Int) := by omega
          have HN := Lib.hid (HST.out.2.1 hm h0)
          clear hm hx HST h0
          go_wp2_with fail
          refine wp_region_rely (by kernel_rfl) (fun d u w' => match d with
            | 13 => u = (.slice (some ⟨b, off, none⟩) l.length c : Value)
            | 14 => u = (.int .i64 (k : Int) : Value)
            | 15 => u = (.pointer (some ⟨b, off + k * 2, none⟩) : Value)
            | 16 => u = (.agg #[.string x.1, .int .i64 x.2] : Value)
            | 17 => u = (.bool true : Value)
            | 18 => u = (.bool false : Value)
            | 19 => u = (.bool false : Value)
            | 20 => u = (.int .i64 (k : Int) : Value)
            | 21 => u = (.bool false : Value)
            | 22 => u = (.bool false : Value)
            | 23 => u = (Go.undef : Value)
            | 24 => u = (Go.undef : Value)
            | 25 => u = (Go.undef : Value)
            | 26 => u = (Go.undef : Value)
            | 27 => u = (Go.undef : Value)
            | 28 => u = (Go.undef : Value)
            | 29 => u = (Go.undef : Value)
            | 30 => u = (Go.undef : Value)
            | 31 => u = (Go.undef : Value)
            | 32 => u = (Go.undef : Value)
            | 33 => u = (Go.undef : Value)
            | 34 => u = (Go.undef : Value)
            | 35 => u = (.bool false : Value)
            | 36 => u = (.bool false : Value)
            | _ => True) 37 rfl (by decide +kernel) [36] ?_ ?_
          · refine AllSteps.cons (Step.move _ rfl rfl fun a w' hl => hl.old 0 rfl) ?_
            refine AllSteps.cons (Step.move _ rfl rfl fun a w' hl => hl.old 3 rfl) ?_
            refine AllSteps.cons (Step.plain rfl fun a w' K hl hK => ?_) ?_
            · obtain ⟨_, _, _, h13⟩ := hl.dep 0 13 rfl rfl
              replace h13 : a.eval (.tmp 13) = _ := h13
              obtain ⟨_, _, _, h14⟩ := hl.dep 1 14 rfl rfl
              replace h14 : a.eval (.tmp 14) = _ := h14
              refine wp_val (.pointer (some ⟨b, off + k * 2, none⟩)) ?_ (hK _ _ (Kept.refl _) rfl)
              clear hl hK
              generalize a.eval = ρ at *
              simp [execOp, go_sem, h13, h14]
              try (intro h; omega)
            refine AllSteps.cons (Step.plain rfl fun a w' K hl hK => ?_) ?_
            · obtain ⟨_, _, _, h15⟩ := hl.dep 2 15 rfl rfl
              replace h15 : a.eval (.tmp 15) = _ := h15
              exact wp_load_ent _ rfl h15 (range_keep HRX.out (hl.kept.block _ hbb)) (hK _ _ (Kept.refl _) rfl)
            refine AllSteps.cons (Step.plain rfl fun a w' K hl hK => ?_) ?_
            · obtain ⟨_, _, _, h16⟩ := hl.dep 3 16 rfl rfl
              replace h16 : a.eval (.tmp 16) = _ := h16
              refine wp_call rfl Try.func32 rfl rfl #[.agg #[.string x.1, .int .i64 x.2]] (by simp [h16]) ?_
              refine (HM.out w').mono ?_
              rintro e w8 ⟨rfl, hb8⟩
              exact ⟨_, rfl, hK _ _ hb8 rfl⟩
            refine AllSteps.cons (Step.plain rfl fun a w' K hl hK => ?_) ?_
            · obtain ⟨_, _, _, h17⟩ := hl.dep 4 17 rfl rfl
              replace h17 : a.eval (.tmp 17) = _ := h17
              refine wp_val (.bool false) ?_ (hK _ _ (Kept.refl _) rfl)
              clear hl hK
              generalize a.eval = ρ at *
              simp [execOp, go_sem, h17]
            refine AllSteps.cons (Step.move _ rfl rfl fun a w' hl => let ⟨_, _, _, h⟩ := hl.dep 5 18 rfl rfl; h) ?_
            refine AllSteps.cons (Step.yes 6 false 19 rfl rfl rfl (fun _ _ h => h) fun a w' K hl hK => ?_) ?_
            · have h3 : a.eval (.tmp 3) = (.int .i64 (k : Int) : Value) := hl.old 3 rfl
              exact wp_val (a.eval (.tmp 3)) rfl (hK _ _ (Kept.refl _) h3)
            refine AllSteps.cons (Step.yes 6 false 19 rfl rfl rfl (fun _ _ h => h) fun a w' K hl hK => ?_) ?_
            · obtain ⟨_, _, _, h20⟩ := hl.dep 7 20 rfl rfl
              replace h20 : a.eval (.tmp 20) = _ := h20
              have hconst : ∀ x, a.eval (.const x) = x := fun _ => rfl
              refine wp_val (.bool false) ?_ (hK _ _ (Kept.refl _) rfl)
              clear hl hK
              generalize a.eval = ρ at *
              simp [execOp, go_sem, h20, hconst]
              try omega
            refine AllSteps.cons (Step.yes 6 false 19 rfl rfl rfl (fun _ _ h => h) fun a w' K hl hK => ?_) ?_
            · obtain ⟨_, _, _, h21⟩ := hl.dep 8 21 rfl rfl
              replace h21 : a.eval (.tmp 21) = _ := h21
              exact wp_val (a.eval (.tmp 21)) rfl (hK _ _ (Kept.refl _) h21)
            refine AllSteps.cons (Step.no 9 true 22 rfl rfl rfl (fun u w h => by rw [show u = (.bool false : Value) from h]; intro h'; cases h') (fun _ => rfl)) ?_
            refine AllSteps.cons (Step.no 9 true 22 rfl rfl rfl (fun u w h => by rw [show u = (.bool false : Value) from h]; intro h'; cases h') (fun _ => rfl)) ?_
            refine AllSteps.cons (Step.no 9 true 22 rfl rfl rfl (fun u w h => by rw [show u = (.bool false : Value) from h]; intro h'; cases h') (fun _ => rfl)) ?_
            refine AllSteps.cons (Step.no 9 true 22 rfl rfl rfl (fun u w h => by rw [show u = (.bool false : Value) from h]; intro h'; cases h') (fun _ => rfl)) ?_
            refine AllSteps.cons (Step.no 9 true 22 rfl rfl rfl (fun u w h => by rw [show u = (.bool false : Value) from h]; intro h'; cases h') (fun _ => rfl)) ?_
            refine AllSteps.cons (Step.no 9 true 22 rfl rfl rfl (fun u w h => by rw [show u = (.bool false : Value) from h]; intro h'; cases h') (fun _ => rfl)) ?_
            refine AllSteps.cons (Step.no 9 true 22 rfl rfl rfl (fun u w h => by rw [show u = (.bool false : Value) from h]; intro h'; cases h') (fun _ => rfl)) ?_
            refine AllSteps.cons (Step.no 9 true 22 rfl rfl rfl (fun u w h => by rw [show u = (.bool false : Value) from h]; intro h'; cases h') (fun _ => rfl)) ?_
            refine AllSteps.cons (Step.no 9 true 22 rfl rfl rfl (fun u w h => by rw [show u = (.bool false : Value) from h]; intro h'; cases h') (fun _ => rfl)) ?_
            refine AllSteps.cons (Step.no 9 true 22 rfl rfl rfl (fun u w h => by rw [show u = (.bool false : Value) from h]; intro h'; cases h') (fun _ => rfl)) ?_
            refine AllSteps.cons (Step.no 9 true 22 rfl rfl rfl (fun u w h => by rw [show u = (.bool false : Value) from h]; intro h'; cases h') (fun _ => rfl)) ?_
            refine AllSteps.cons (Step.no 9 true 22 rfl rfl rfl (fun u w h => by rw [show u = (.bool false : Value) from h]; intro h'; cases h') (fun _ => rfl)) ?_
            refine AllSteps.cons (Step.yes 6 false 19 rfl rfl rfl (fun _ _ h => h) fun a w' K hl hK => ?_) ?_
            · obtain ⟨_, _, _, h22⟩ := hl.dep 9 22 rfl rfl
              replace h22 : a.eval (.tmp 22) = _ := h22
              obtain ⟨_, _, _, h34⟩ := hl.dep 21 34 rfl rfl
              replace h34 : a.eval (.tmp 34) = _ := h34
              exact wp_pick rfl false h22 (hK _ _ (Kept.refl _) rfl)
            refine AllSteps.cons (Step.plain rfl fun a w' K hl hK => ?_) ?_
            · obtain ⟨_, _, _, h19⟩ := hl.dep 6 19 rfl rfl
              replace h19 : a.eval (.tmp 19) = _ := h19
              obtain ⟨_, _, _, h35⟩ := hl.dep 22 35 rfl rfl
              replace h35 : a.eval (.tmp 35) = _ := h35
              exact wp_pick rfl false h19 (hK _ _ (Kept.refl _) h35)
            exact AllSteps.nil
          · intro f w9 hk9 hf
            obtain ⟨_, _, hres⟩ := hf 36 rfl rfl
            replace hres : f 36 = .bool false := hres
            simp only [Exit.then, fill, dsts, List.filterMap_cons, List.filterMap_nil, List.foldl_cons, List.foldl_nil, Act.put, hres, List.setIfInBounds_toArray, List.set_cons_succ, List.set_cons_zero]
            clear hf
            have HB9 := Lib.hid (HB2.out.trans (Below.mono hk9 HB2.out.size))
            clear hk9
            go_wp2_with fail
            go_roundw
            case rel => exact ⟨k + 1, by omega, by go_num, HN.out, HB9.out⟩
            case measure => simp [intOf]; omega
        · have hkp : (0 : Int) < (k : Int) := by omega
          obtain ⟨y, hy⟩ : ∃ y, l[k - 1]? = some y := ⟨_, List.getElem?_eq_getElem (by omega)⟩
          obtain ⟨k1, hk1e⟩ : ∃ k1, k1 = k - 1 := ⟨_, rfl⟩
          have hk1 : (k : Int) - 1 = (k1 : Int) := by omega
          have hk1l : (k1 : Int) < (l.length : Int) := by omega
          have hk10 : (0 : Int) ≤ (k1 : Int) := by omega
          have HC := Lib.hid (HST.out.2.2 y hy hm (by omega))
          rw [← hk1e] at hy
          have hry := range_keep (ent_range HS.out hy).1 (HB.out.block b hb0)
          have HRY0 := Lib.hid hry
          clear hm hx HST h0 hy hk1e hry
          cases hle : le x.1 y.1
          · have HN := Lib.hid (HC.out.2 hle)
            have HLE := Lib.hid hle
            clear hle HC
            go_wp2_with fail
            have HRY := HRY0
            refine wp_region_rely (by kernel_rfl) (fun d u w' => match d with
              | 13 => u = (.slice (some ⟨b, off, none⟩) l.length c : Value)
              | 14 => u = (.int .i64 (k : Int) : Value)
              | 15 => u = (.pointer (some ⟨b, off + k * 2, none⟩) : Value)
              | 16 => u = (.agg #[.string x.1, .int .i64 x.2] : Value)
              | 17 => u = (.bool true : Value)
              | 18 => u = (.bool false : Value)
              | 19 => u = (.bool false : Value)
              | 20 => u = (.int .i64 (k : Int) : Value)
              | 21 => u = (.bool true : Value)
              | 22 => u = (.bool true : Value)
              | 23 => u = (.slice (some ⟨b, off, none⟩) l.length c : Value)
              | 24 => u = (.int .i64 (k : Int) : Value)
              | 25 => u = (.pointer (some ⟨b, off + k * 2, none⟩) : Value)
              | 26 => u = (.pointer (some ⟨b, off + k * 2, none⟩) : Value)
              | 27 => u = (.string x.1 : Value)
              | 28 => u = (.slice (some ⟨b, off, none⟩) l.length c : Value)
              | 29 => u = (.int .i64 (k : Int) : Value)
              | 30 => u = (.int .i64 ((k1 : Nat) : Int) : Value)
              | 31 => u = (.pointer (some ⟨b, off + k1 * 2, none⟩) : Value)
              | 32 => u = (.pointer (some ⟨b, off + k1 * 2, none⟩) : Value)
              | 33 => u = (.string y.1 : Value)
              | 34 => u = (.bool false : Value)
              | 35 => u = (.bool false : Value)
              | 36 => u = (.bool false : Value)
              | _ => True) 37 rfl (by decide +kernel) [36] ?_ ?_
            · refine AllSteps.cons (Step.move _ rfl rfl fun a w' hl => hl.old 0 rfl) ?_
              refine AllSteps.cons (Step.move _ rfl rfl fun a w' hl => hl.old 3 rfl) ?_
              refine AllSteps.cons (Step.plain rfl fun a w' K hl hK => ?_) ?_
              · obtain ⟨_, _, _, h13⟩ := hl.dep 0 13 rfl rfl
                replace h13 : a.eval (.tmp 13) = _ := h13
                obtain ⟨_, _, _, h14⟩ := hl.dep 1 14 rfl rfl
                replace h14 : a.eval (.tmp 14) = _ := h14
                refine wp_val (.pointer (some ⟨b, off + k * 2, none⟩)) ?_ (hK _ _ (Kept.refl _) rfl)
                clear hl hK
                generalize a.eval = ρ at *
                simp [execOp, go_sem, h13, h14]
                try (intro h; omega)
              refine AllSteps.cons (Step.plain rfl fun a w' K hl hK => ?_) ?_
              · obtain ⟨_, _, _, h15⟩ := hl.dep 2 15 rfl rfl
                replace h15 : a.eval (.tmp 15) = _ := h15
                exact wp_load_ent _ rfl h15 (range_keep HRX.out (hl.kept.block _ hbb)) (hK _ _ (Kept.refl _) rfl)
              refine AllSteps.cons (Step.plain rfl fun a w' K hl hK => ?_) ?_
              · obtain ⟨_, _, _, h16⟩ := hl.dep 3 16 rfl rfl
                replace h16 : a.eval (.tmp 16) = _ := h16
                refine wp_call rfl Try.func32 rfl rfl #[.agg #[.string x.1, .int .i64 x.2]] (by simp [h16]) ?_
                refine (HM.out w').mono ?_
                rintro e w8 ⟨rfl, hb8⟩
                exact ⟨_, rfl, hK _ _ hb8 rfl⟩
              refine AllSteps.cons (Step.plain rfl fun a w' K hl hK => ?_) ?_
              · obtain ⟨_, _, _, h17⟩ := hl.dep 4 17 rfl rfl
                replace h17 : a.eval (.tmp 17) = _ := h17
                refine wp_val (.bool false) ?_ (hK _ _ (Kept.refl _) rfl)
                clear hl hK
                generalize a.eval = ρ at *
                simp [execOp, go_sem, h17]
              refine AllSteps.cons (Step.move _ rfl rfl fun a w' hl => let ⟨_, _, _, h⟩ := hl.dep 5 18 rfl rfl; h) ?_
              refine AllSteps.cons (Step.yes 6 false 19 rfl rfl rfl (fun _ _ h => h) fun a w' K hl hK => ?_) ?_
              · have h3 : a.eval (.tmp 3) = (.int .i64 (k : Int) : Value) := hl.old 3 rfl
                exact wp_val (a.eval (.tmp 3)) rfl (hK _ _ (Kept.refl _) h3)
              refine AllSteps.cons (Step.yes 6 false 19 rfl rfl rfl (fun _ _ h => h) fun a w' K hl hK => ?_) ?_
              · obtain ⟨_, _, _, h20⟩ := hl.dep 7 20 rfl rfl
                replace h20 : a.eval (.tmp 20) = _ := h20
                have hconst : ∀ x, a.eval (.const x) = x := fun _ => rfl
                refine wp_val (.bool true) ?_ (hK _ _ (Kept.refl _) rfl)
                clear hl hK
                generalize a.eval = ρ at *
                simp [execOp, go_sem, h20, hconst]
                try omega
              refine AllSteps.cons (Step.yes 6 false 19 rfl rfl rfl (fun _ _ h => h) fun a w' K hl hK => ?_) ?_
              · obtain ⟨_, _, _, h21⟩ := hl.dep 8 21 rfl rfl
                replace h21 : a.eval (.tmp 21) = _ := h21
                exact wp_val (a.eval (.tmp 21)) rfl (hK _ _ (Kept.refl _) h21)
              refine AllSteps.cons (Step.yes 9 true 22 rfl rfl rfl (fun _ _ h => h) fun a w' K hl hK => ?_) ?_
              · have h0 : a.eval (.tmp 0) = (.slice (some ⟨b, off, none⟩) l.length c : Value) := hl.old 0 rfl
                exact wp_val (a.eval (.tmp 0)) rfl (hK _ _ (Kept.refl _) h0)
              refine AllSteps.cons (Step.yes 9 true 22 rfl rfl rfl (fun _ _ h => h) fun a w' K hl hK => ?_) ?_
              · have h3 : a.eval (.tmp 3) = (.int .i64 (k : Int) : Value) := hl.old 3 rfl
                exact wp_val (a.eval (.tmp 3)) rfl (hK _ _ (Kept.refl _) h3)
              refine AllSteps.cons (Step.yes 9 true 22 rfl rfl rfl (fun _ _ h => h) fun a w' K hl hK => ?_) ?_
              · obtain ⟨_, _, _, h23⟩ := hl.dep 10 23 rfl rfl
                replace h23 : a.eval (.tmp 23) = _ := h23
                obtain ⟨_, _, _, h24⟩ := hl.dep 11 24 rfl rfl
                replace h24 : a.eval (.tmp 24) = _ := h24
                refine wp_val (.pointer (some ⟨b, off + k * 2, none⟩)) ?_ (hK _ _ (Kept.refl _) rfl)
                clear hl hK
                generalize a.eval = ρ at *
                simp [execOp, go_sem, h23, h24]
                try (intro h; omega)
              refine AllSteps.cons (Step.yes 9 true 22 rfl rfl rfl (fun _ _ h => h) fun a w' K hl hK => ?_) ?_
              · obtain ⟨_, _, _, h25⟩ := hl.dep 12 25 rfl rfl
                replace h25 : a.eval (.tmp 25) = _ := h25
                refine wp_val (.pointer (some ⟨b, off + k * 2, none⟩)) ?_ (hK _ _ (Kept.refl _) rfl)
                clear hl hK
                generalize a.eval = ρ at *
                simp [execOp, go_sem, h25]
                try (intro h; omega)
              refine AllSteps.cons (Step.yes 9 true 22 rfl rfl rfl (fun _ _ h => h) fun a w' K hl hK => ?_) ?_
              · obtain ⟨_, _, _, h26⟩ := hl.dep 13 26 rfl rfl
                replace h26 : a.eval (.tmp 26) = _ := h26
                have hcell := range_name (range_keep HRX.out (hl.kept.block _ hbb))
                refine wp_val (.string x.1) ?_ (hK _ _ (Kept.refl _) rfl)
                clear hl hK
                generalize a.eval = ρ at *
                simp [execOp, go_sem, h26, hcell]
              refine AllSteps.cons (Step.yes 9 true 22 rfl rfl rfl (fun _ _ h => h) fun a w' K hl hK => ?_) ?_
              · have h0 : a.eval (.tmp 0) = (.slice (some ⟨b, off, none⟩) l.length c : Value) := hl.old 0 rfl
                exact wp_val (a.eval (.tmp 0)) rfl (hK _ _ (Kept.refl _) h0)
              refine AllSteps.cons (Step.yes 9 true 22 rfl rfl rfl (fun _ _ h => h) fun a w' K hl hK => ?_) ?_
              · have h3 : a.eval (.tmp 3) = (.int .i64 (k : Int) : Value) := hl.old 3 rfl
                exact wp_val (a.eval (.tmp 3)) rfl (hK _ _ (Kept.refl _) h3)
              refine AllSteps.cons (Step.yes 9 true 22 rfl rfl rfl (fun _ _ h => h) fun a w' K hl hK => ?_) ?_
              · obtain ⟨_, _, _, h29⟩ := hl.dep 16 29 rfl rfl
                replace h29 : a.eval (.tmp 29) = _ := h29
                have hconst : ∀ x, a.eval (.const x) = x := fun _ => rfl
                refine wp_val (.int .i64 ((k1 : Nat) : Int)) ?_ (hK _ _ (Kept.refl _) rfl)
                clear hl hK
                generalize a.eval = ρ at *
                simp [execOp, go_sem, h29, hconst, hk1]
                rw [IntKind.wrap_i64]
                omega
              refine AllSteps.cons (Step.yes 9 true 22 rfl rfl rfl (fun _ _ h => h) fun a w' K hl hK => ?_) ?_
              · obtain ⟨_, _, _, h28⟩ := hl.dep 15 28 rfl rfl
                replace h28 : a.eval (.tmp 28) = _ := h28
                obtain ⟨_, _, _, h30⟩ := hl.dep 17 30 rfl rfl
                replace h30 : a.eval (.tmp 30) = _ := h30
                refine wp_val (.pointer (some ⟨b, off + k1 * 2, none⟩)) ?_ (hK _ _ (Kept.refl _) rfl)
                clear hl hK
                generalize a.eval = ρ at *
                simp [execOp, go_sem, h28, h30]
                try (intro h; omega)
              refine AllSteps.cons (Step.yes 9 true 22 rfl rfl rfl (fun _ _ h => h) fun a w' K hl hK => ?_) ?_
              · obtain ⟨_, _, _, h31⟩ := hl.dep 18 31 rfl rfl
                replace h31 : a.eval (.tmp 31) = _ := h31
                refine wp_val (.pointer (some ⟨b, off + k1 * 2, none⟩)) ?_ (hK _ _ (Kept.refl _) rfl)
                clear hl hK
                generalize a.eval = ρ at *
                simp [execOp, go_sem, h31]
                try (intro h; omega)
              refine AllSteps.cons (Step.yes 9 true 22 rfl rfl rfl (fun _ _ h => h) fun a w' K hl hK => ?_) ?_
              · obtain ⟨_, _, _, h32⟩ := hl.dep 19 32 rfl rfl
                replace h32 : a.eval (.tmp 32) = _ := h32
                have hcell := range_name (range_keep HRY.out (hl.kept.block _ hbb))
                refine wp_val (.string y.1) ?_ (hK _ _ (Kept.refl _) rfl)
                clear hl hK
                generalize a.eval = ρ at *
                simp [execOp, go_sem, h32, hcell]
              refine AllSteps.cons (Step.yes 9 true 22 rfl rfl rfl (fun _ _ h => h) fun a w' K hl hK => ?_) ?_
              · obtain ⟨_, _, _, h27⟩ := hl.dep 14 27 rfl rfl
                replace h27 : a.eval (.tmp 27) = _ := h27
                obtain ⟨_, _, _, h33⟩ := hl.dep 20 33 rfl rfl
                replace h33 : a.eval (.tmp 33) = _ := h33
                exact wp_leq_str rfl h27 h33 _ HLE.out (hK _ _ (Kept.refl _) rfl)
              refine AllSteps.cons (Step.yes 6 false 19 rfl rfl rfl (fun _ _ h => h) fun a w' K hl hK => ?_) ?_
              · obtain ⟨_, _, _, h22⟩ := hl.dep 9 22 rfl rfl
                replace h22 : a.eval (.tmp 22) = _ := h22
                obtain ⟨_, _, _, h34⟩ := hl.dep 21 34 rfl rfl
                replace h34 : a.eval (.tmp 34) = _ := h34
                exact wp_pick rfl true h22 (hK _ _ (Kept.refl _) h34)
              refine AllSteps.cons (Step.plain rfl fun a w' K hl hK => ?_) ?_
              · obtain ⟨_, _, _, h19⟩ := hl.dep 6 19 rfl rfl
                replace h19 : a.eval (.tmp 19) = _ := h19
                obtain ⟨_, _, _, h35⟩ := hl.dep 22 35 rfl rfl
                replace h35 : a.eval (.tmp 35) = _ := h35
                exact wp_pick rfl false h19 (hK _ _ (Kept.refl _) h35)
              exact AllSteps.nil
            · intro f w9 hk9 hf
              obtain ⟨_, _, hres⟩ := hf 36 rfl rfl
              replace hres : f 36 = .bool false := hres
              simp only [Exit.then, fill, dsts, List.filterMap_cons, List.filterMap_nil, List.foldl_cons, List.foldl_nil, Act.put, hres, List.setIfInBounds_toArray, List.set_cons_succ, List.set_cons_zero]
              clear hf
              have HB9 := Lib.hid (HB2.out.trans (Below.mono hk9 HB2.out.size))
              clear hk9
              go_wp2_with fail
              go_roundw
              case rel => exact ⟨k + 1, by omega, by go_num, HN.out, HB9.out⟩
              case measure => simp [intOf]; omega
          · have HF := Lib.hid (HC.out.1 hle)
            have HLE := Lib.hid hle
            clear hle HC
            go_wp2_with fail
            have HRY := HRY0
            refine wp_region_rely (by kernel_rfl) (fun d u w' => match d with
              | 13 => u = (.slice (some ⟨b, off, none⟩) l.length c : Value)
              | 14 => u = (.int .i64 (k : Int) : Value)
              | 15 => u = (.pointer (some ⟨b, off + k * 2, none⟩) : Value)
              | 16 => u = (.agg #[.string x.1, .int .i64 x.2] : Value)
              | 17 => u = (.bool true : Value)
              | 18 => u = (.bool false : Value)
              | 19 => u = (.bool false : Value)
              | 20 => u = (.int .i64 (k : Int) : Value)
              | 21 => u = (.bool true : Value)
              | 22 => u = (.bool true : Value)
              | 23 => u = (.slice (some ⟨b, off, none⟩) l.length c : Value)
              | 24 => u = (.int .i64 (k : Int) : Value)
              | 25 => u = (.pointer (some ⟨b, off + k * 2, none⟩) : Value)
              | 26 => u = (.pointer (some ⟨b, off + k * 2, none⟩) : Value)
              | 27 => u = (.string x.1 : Value)
              | 28 => u = (.slice (some ⟨b, off, none⟩) l.length c : Value)
              | 29 => u = (.int .i64 (k : Int) : Value)
              | 30 => u = (.int .i64 ((k1 : Nat) : Int) : Value)
              | 31 => u = (.pointer (some ⟨b, off + k1 * 2, none⟩) : Value)
              | 32 => u = (.pointer (some ⟨b, off + k1 * 2, none⟩) : Value)
              | 33 => u = (.string y.1 : Value)
              | 34 => u = (.bool true : Value)
              | 35 => u = (.bool true : Value)
              | 36 => u = (.bool true : Value)
              | _ => True) 37 rfl (by decide +kernel) [36] ?_ ?_
            · refine AllSteps.cons (Step.move _ rfl rfl fun a w' hl => hl.old 0 rfl) ?_
              refine AllSteps.cons (Step.move _ rfl rfl fun a w' hl => hl.old 3 rfl) ?_
              refine AllSteps.cons (Step.plain rfl fun a w' K hl hK => ?_) ?_
              · obtain ⟨_, _, _, h13⟩ := hl.dep 0 13 rfl rfl
                replace h13 : a.eval (.tmp 13) = _ := h13
                obtain ⟨_, _, _, h14⟩ := hl.dep 1 14 rfl rfl
                replace h14 : a.eval (.tmp 14) = _ := h14
                refine wp_val (.pointer (some ⟨b, off + k * 2, none⟩)) ?_ (hK _ _ (Kept.refl _) rfl)
                clear hl hK
                generalize a.eval = ρ at *
                simp [execOp, go_sem, h13, h14]
                try (intro h; omega)
              refine AllSteps.cons (Step.plain rfl fun a w' K hl hK => ?_) ?_
              · obtain ⟨_, _, _, h15⟩ := hl.dep 2 15 rfl rfl
                replace h15 : a.eval (.tmp 15) = _ := h15
                exact wp_load_ent _ rfl h15 (range_keep HRX.out (hl.kept.block _ hbb)) (hK _ _ (Kept.refl _) rfl)
              refine AllSteps.cons (Step.plain rfl fun a w' K hl hK => ?_) ?_
              · obtain ⟨_, _, _, h16⟩ := hl.dep 3 16 rfl rfl
                replace h16 : a.eval (.tmp 16) = _ := h16
                refine wp_call rfl Try.func32 rfl rfl #[.agg #[.string x.1, .int .i64 x.2]] (by simp [h16]) ?_
                refine (HM.out w').mono ?_
                rintro e w8 ⟨rfl, hb8⟩
                exact ⟨_, rfl, hK _ _ hb8 rfl⟩
              refine AllSteps.cons (Step.plain rfl fun a w' K hl hK => ?_) ?_
              · obtain ⟨_, _, _, h17⟩ := hl.dep 4 17 rfl rfl
                replace h17 : a.eval (.tmp 17) = _ := h17
                refine wp_val (.bool false) ?_ (hK _ _ (Kept.refl _) rfl)
                clear hl hK
                generalize a.eval = ρ at *
                simp [execOp, go_sem, h17]
              refine AllSteps.cons (Step.move _ rfl rfl fun a w' hl => let ⟨_, _, _, h⟩ := hl.dep 5 18 rfl rfl; h) ?_
              refine AllSteps.cons (Step.yes 6 false 19 rfl rfl rfl (fun _ _ h => h) fun a w' K hl hK => ?_) ?_
              · have h3 : a.eval (.tmp 3) = (.int .i64 (k : Int) : Value) := hl.old 3 rfl
                exact wp_val (a.eval (.tmp 3)) rfl (hK _ _ (Kept.refl _) h3)
              refine AllSteps.cons (Step.yes 6 false 19 rfl rfl rfl (fun _ _ h => h) fun a w' K hl hK => ?_) ?_
              · obtain ⟨_, _, _, h20⟩ := hl.dep 7 20 rfl rfl
                replace h20 : a.eval (.tmp 20) = _ := h20
                have hconst : ∀ x, a.eval (.const x) = x := fun _ => rfl
                refine wp_val (.bool true) ?_ (hK _ _ (Kept.refl _) rfl)
                clear hl hK
                generalize a.eval = ρ at *
                simp [execOp, go_sem, h20, hconst]
                try omega
              refine AllSteps.cons (Step.yes 6 false 19 rfl rfl rfl (fun _ _ h => h) fun a w' K hl hK => ?_) ?_
              · obtain ⟨_, _, _, h21⟩ := hl.dep 8 21 rfl rfl
                replace h21 : a.eval (.tmp 21) = _ := h21
                exact wp_val (a.eval (.tmp 21)) rfl (hK _ _ (Kept.refl _) h21)
              refine AllSteps.cons (Step.yes 9 true 22 rfl rfl rfl (fun _ _ h => h) fun a w' K hl hK => ?_) ?_
              · have h0 : a.eval (.tmp 0) = (.slice (some ⟨b, off, none⟩) l.length c : Value) := hl.old 0 rfl
                exact wp_val (a.eval (.tmp 0)) rfl (hK _ _ (Kept.refl _) h0)
              refine AllSteps.cons (Step.yes 9 true 22 rfl rfl rfl (fun _ _ h => h) fun a w' K hl hK => ?_) ?_
              · have h3 : a.eval (.tmp 3) = (.int .i64 (k : Int) : Value) := hl.old 3 rfl
                exact wp_val (a.eval (.tmp 3)) rfl (hK _ _ (Kept.refl _) h3)
              refine AllSteps.cons (Step.yes 9 true 22 rfl rfl rfl (fun _ _ h => h) fun a w' K hl hK => ?_) ?_
              · obtain ⟨_, _, _, h23⟩ := hl.dep 10 23 rfl rfl
                replace h23 : a.eval (.tmp 23) = _ := h23
                obtain ⟨_, _, _, h24⟩ := hl.dep 11 24 rfl rfl
                replace h24 : a.eval (.tmp 24) = _ := h24
                refine wp_val (.pointer (some ⟨b, off + k * 2, none⟩)) ?_ (hK _ _ (Kept.refl _) rfl)
                clear hl hK
                generalize a.eval = ρ at *
                simp [execOp, go_sem, h23, h24]
                try (intro h; omega)
              refine AllSteps.cons (Step.yes 9 true 22 rfl rfl rfl (fun _ _ h => h) fun a w' K hl hK => ?_) ?_
              · obtain ⟨_, _, _, h25⟩ := hl.dep 12 25 rfl rfl
                replace h25 : a.eval (.tmp 25) = _ := h25
                refine wp_val (.pointer (some ⟨b, off + k * 2, none⟩)) ?_ (hK _ _ (Kept.refl _) rfl)
                clear hl hK
                generalize a.eval = ρ at *
                simp [execOp, go_sem, h25]
                try (intro h; omega)
              refine AllSteps.cons (Step.yes 9 true 22 rfl rfl rfl (fun _ _ h => h) fun a w' K hl hK => ?_) ?_
              · obtain ⟨_, _, _, h26⟩ := hl.dep 13 26 rfl rfl
                replace h26 : a.eval (.tmp 26) = _ := h26
                have hcell := range_name (range_keep HRX.out (hl.kept.block _ hbb))
                refine wp_val (.string x.1) ?_ (hK _ _ (Kept.refl _) rfl)
                clear hl hK
                generalize a.eval = ρ at *
                simp [execOp, go_sem, h26, hcell]
              refine AllSteps.cons (Step.yes 9 true 22 rfl rfl rfl (fun _ _ h => h) fun a w' K hl hK => ?_) ?_
              · have h0 : a.eval (.tmp 0) = (.slice (some ⟨b, off, none⟩) l.length c : Value) := hl.old 0 rfl
                exact wp_val (a.eval (.tmp 0)) rfl (hK _ _ (Kept.refl _) h0)
              refine AllSteps.cons (Step.yes 9 true 22 rfl rfl rfl (fun _ _ h => h) fun a w' K hl hK => ?_) ?_
              · have h3 : a.eval (.tmp 3) = (.int .i64 (k : Int) : Value) := hl.old 3 rfl
                exact wp_val (a.eval (.tmp 3)) rfl (hK _ _ (Kept.refl _) h3)
              refine AllSteps.cons (Step.yes 9 true 22 rfl rfl rfl (fun _ _ h => h) fun a w' K hl hK => ?_) ?_
              · obtain ⟨_, _, _, h29⟩ := hl.dep 16 29 rfl rfl
                replace h29 : a.eval (.tmp 29) = _ := h29
                have hconst : ∀ x, a.eval (.const x) = x := fun _ => rfl
                refine wp_val (.int .i64 ((k1 : Nat) : Int)) ?_ (hK _ _ (Kept.refl _) rfl)
                clear hl hK
                generalize a.eval = ρ at *
                simp [execOp, go_sem, h29, hconst, hk1]
                rw [IntKind.wrap_i64]
                omega
              refine AllSteps.cons (Step.yes 9 true 22 rfl rfl rfl (fun _ _ h => h) fun a w' K hl hK => ?_) ?_
              · obtain ⟨_, _, _, h28⟩ := hl.dep 15 28 rfl rfl
                replace h28 : a.eval (.tmp 28) = _ := h28
                obtain ⟨_, _, _, h30⟩ := hl.dep 17 30 rfl rfl
                replace h30 : a.eval (.tmp 30) = _ := h30
                refine wp_val (.pointer (some ⟨b, off + k1 * 2, none⟩)) ?_ (hK _ _ (Kept.refl _) rfl)
                clear hl hK
                generalize a.eval = ρ at *
                simp [execOp, go_sem, h28, h30]
                try (intro h; omega)
              refine AllSteps.cons (Step.yes 9 true 22 rfl rfl rfl (fun _ _ h => h) fun a w' K hl hK => ?_) ?_
              · obtain ⟨_, _, _, h31⟩ := hl.dep 18 31 rfl rfl
                replace h31 : a.eval (.tmp 31) = _ := h31
                refine wp_val (.pointer (some ⟨b, off + k1 * 2, none⟩)) ?_ (hK _ _ (Kept.refl _) rfl)
                clear hl hK
                generalize a.eval = ρ at *
                simp [execOp, go_sem, h31]
                try (intro h; omega)
              refine AllSteps.cons (Step.yes 9 true 22 rfl rfl rfl (fun _ _ h => h) fun a w' K hl hK => ?_) ?_
              · obtain ⟨_, _, _, h32⟩ := hl.dep 19 32 rfl rfl
                replace h32 : a.eval (.tmp 32) = _ := h32
                have hcell := range_name (range_keep HRY.out (hl.kept.block _ hbb))
                refine wp_val (.string y.1) ?_ (hK _ _ (Kept.refl _) rfl)
                clear hl hK
                generalize a.eval = ρ at *
                simp [execOp, go_sem, h32, hcell]
              refine AllSteps.cons (Step.yes 9 true 22 rfl rfl rfl (fun _ _ h => h) fun a w' K hl hK => ?_) ?_
              · obtain ⟨_, _, _, h27⟩ := hl.dep 14 27 rfl rfl
                replace h27 : a.eval (.tmp 27) = _ := h27
                obtain ⟨_, _, _, h33⟩ := hl.dep 20 33 rfl rfl
                replace h33 : a.eval (.tmp 33) = _ := h33
                exact wp_leq_str rfl h27 h33 _ HLE.out (hK _ _ (Kept.refl _) rfl)
              refine AllSteps.cons (Step.yes 6 false 19 rfl rfl rfl (fun _ _ h => h) fun a w' K hl hK => ?_) ?_
              · obtain ⟨_, _, _, h22⟩ := hl.dep 9 22 rfl rfl
                replace h22 : a.eval (.tmp 22) = _ := h22
                obtain ⟨_, _, _, h34⟩ := hl.dep 21 34 rfl rfl
                replace h34 : a.eval (.tmp 34) = _ := h34
                exact wp_pick rfl true h22 (hK _ _ (Kept.refl _) h34)
              refine AllSteps.cons (Step.plain rfl fun a w' K hl hK => ?_) ?_
              · obtain ⟨_, _, _, h19⟩ := hl.dep 6 19 rfl rfl
                replace h19 : a.eval (.tmp 19) = _ := h19
                obtain ⟨_, _, _, h35⟩ := hl.dep 22 35 rfl rfl
                replace h35 : a.eval (.tmp 35) = _ := h35
                exact wp_pick rfl false h19 (hK _ _ (Kept.refl _) h35)
              exact AllSteps.nil
            · intro f w9 hk9 hf
              obtain ⟨_, _, hres⟩ := hf 36 rfl rfl
              replace hres : f 36 = .bool true := hres
              simp only [Exit.then, fill, dsts, List.filterMap_cons, List.filterMap_nil, List.foldl_cons, List.foldl_nil, Act.put, hres, List.setIfInBounds_toArray, List.set_cons_succ, List.set_cons_zero]
              clear hf
              have HB9 := Lib.hid (HB2.out.trans (Below.mono hk9 HB2.out.size))
              clear hk9
              go_wp2_with fail
              go_ret
              exact ⟨by rw [HF.out]; rfl, HB9.out⟩
    · have hge : (l.length : Int) ≤ (k : Int) := by omega
      obtain rfl : k = l.length := by omega
      have HF : Hid (checkB l = decide ((l.length : Int) ≤ 64)) := by
        show _ = _
        unfold checkB
        rw [HOK.out, Bool.true_and]
        congr 1
        apply propext
        omega
      go_wp2_with fail
      go_ret
      exact ⟨by rw [HF.out]; rw [decide_eq_true hbigI]; rfl, HB.out⟩
end Go.Proofs.Ytifbbbphoponcaa.Dr
