/-
  A region that draws its order, and whose last operation is a store that waits for all others: it may write what was there.
-/
import Derived.Test.YtgfhepfikphliaaRely
namespace Go.Proofs.Ytgfhepfikphliaa.Wd
open Go.RowKit
set_option linter.unusedVariables false

/-- operation e has no slot, and waits for all others -/
def finOk (ops : Array Oper) (e : Nat) : Bool := match ops[e]? with
  | none => false
  | some o => o.dst.isNone && (List.range ops.size).all fun j => j == e || o.after.toList.any fun x => Region.binds .any x && (x.on == j || match ops[x.on]? with | none => false | some ox => ox.after.toList.any fun y => y.on == j && Region.binds .any y)
theorem fin_parts {ops : Array Oper} {e : Nat} (h : finOk ops e = true) : e < ops.size ∧ (∀ o, ops[e]? = some o → o.dst = none) ∧
    ∀ o, ops[e]? = some o → ∀ j, j < ops.size → ¬ j = e → ∃ x ∈ o.after, Region.binds .any x = true ∧ (x.on = j ∨ ∃ ox y, ops[x.on]? = some ox ∧ y ∈ ox.after ∧ y.on = j ∧ Region.binds .any y = true) := by
  unfold finOk at h
  cases ho : ops[e]? with
  | none => rw [ho] at h; cases h
  | some o =>
    rw [ho] at h
    simp only [Bool.and_eq_true] at h
    refine ⟨(Array.getElem?_eq_some_iff.1 ho).1, fun o' h' => ?_, fun o' h' j hj hje => ?_⟩
    · injection h' with h'
      subst h'
      simpa using h.1
    · injection h' with h'
      subst h'
      have h2 := List.all_eq_true.1 h.2 j (List.mem_range.2 hj)
      simp only [Bool.or_eq_true, beq_iff_eq, hje, false_or] at h2
      obtain ⟨x, hx, hxe⟩ := List.any_eq_true.1 h2
      simp only [Bool.and_eq_true, Bool.or_eq_true, beq_iff_eq] at hxe
      refine ⟨x, Array.mem_toList_iff.1 hx, hxe.1, hxe.2.imp id fun h3 => ?_⟩
      cases hox : ops[x.on]? with
      | none => rw [hox] at h3; cases h3
      | some ox =>
        rw [hox] at h3
        obtain ⟨y, hy, hye⟩ := List.any_eq_true.1 h3
        simp only [Bool.and_eq_true, beq_iff_eq] at hye
        exact ⟨ox, y, rfl, Array.mem_toList_iff.1 hy, hye.1, hye.2⟩
section
variable {P : Program} {ops : Array Oper} {Q : Exit → Act → World → Prop}
def StepF (P : Program) (ops : Array Oper) (Q : Exit → Act → World → Prop) (out : List Tmp) (Φ : Tmp → Value → World → Prop) (a0 : Act) (w0 : World) (B : Nat) (e : Nat) (R : World → World → Prop) (i : Nat) (o : Oper) : Prop :=
  (¬ i = e → Step P ops Q out Φ a0 w0 B i o) ∧
  (i = e → ∀ (a : Act) (w : World) (K : Act → World → Prop), Leans ops Φ a0 w0 B i o a w → (∀ w', R w w' → K (a.put o.dst undef) w') → if Region.wanted o (yielded ops a.tmps) = true then Oper.wp P o a w K Q else K (a.put o.dst undef) w)
theorem StepF.of {out : List Tmp} {Φ : Tmp → Value → World → Prop} {a0 : Act} {w0 : World} {B : Nat} {e : Nat} {R : World → World → Prop} {i : Nat} {o : Oper} (hne : ¬ i = e) (h : Step P ops Q out Φ a0 w0 B i o) : StepF P ops Q out Φ a0 w0 B e R i o := ⟨fun _ => h, fun h => absurd h hne⟩
theorem StepF.fin {out : List Tmp} {Φ : Tmp → Value → World → Prop} {a0 : Act} {w0 : World} {B : Nat} {e : Nat} {R : World → World → Prop} {o : Oper} (hg : o.guard = none) (h : ∀ a w K, Leans ops Φ a0 w0 B e o a w → (∀ w', R w w' → K (a.put o.dst undef) w') → Oper.wp P o a w K Q) : StepF P ops Q out Φ a0 w0 B e R e o :=
  ⟨fun h => absurd rfl h, fun _ a w K hl hK => by rw [if_pos (by simp [Region.wanted, hg])]; exact h a w K hl hK⟩

theorem wp_region_fin {id : Nat} {a0 : Act} {w0 : World} (B : Nat) (hB : B ≤ w0.heap.size) (hm : P.follows .mixedOrders = true) (Φ : Tmp → Value → World → Prop) (n : Nat) (hn : a0.tmps.size = n) (hok : relyOk ops n = true)
    (out : List Tmp) (e : Nat) (he : finOk ops e = true) (R : World → World → Prop) (steps : AllSteps (StepF P ops Q out Φ a0 w0 B e R) 0 ops.toList)
    (last : ∀ (f : Tmp → Value) (w1 w : World), Below B w0 w1 → (∀ d, out.contains d = true → (dsts ops).contains d = true → Since Φ d (f d) w1) → R w1 w → Q .normal (fill a0 (dsts ops) f) w) :
    (Code.region id ops true).wp P Q a0 w0 := by
  subst hn
  have ok : ∀ (i : Nat) (o : Oper), ops[i]? = some o → (∀ e ∈ o.after, Region.binds .any e = true → e.on < i) ∧ ∀ d, o.dst = some d → d < a0.tmps.size ∧ ∀ (j : Nat) (oj : Oper), ops[j]? = some oj → i ≠ j → oj.dst ≠ some d := by
    intro i o ho
    have hi : i < ops.size := (Array.getElem?_eq_some_iff.1 ho).1
    have h := List.all_eq_true.1 hok i (List.mem_range.2 hi)
    rw [ho] at h
    simp only [Bool.and_eq_true] at h
    refine ⟨fun e he hb => by have := Array.all_eq_true_iff_forall_mem.1 h.1 e he; rw [hb] at this; simpa using this, fun d hd => ?_⟩
    have h2 := h.2
    rw [hd] at h2
    simp only [Bool.and_eq_true, decide_eq_true_eq] at h2
    refine ⟨h2.1, fun j oj hj hne hdj => ?_⟩
    have hjs : j < ops.size := (Array.getElem?_eq_some_iff.1 hj).1
    have h3 := List.all_eq_true.1 h2.2 j (List.mem_range.2 hjs)
    rw [hj] at h3
    simp [hne, hdj] at h3
  have mem : ∀ d : Tmp, (dsts ops).contains d = true ↔ ∃ (i : Nat) (o : Oper), ops[i]? = some o ∧ o.dst = some d := by
    intro d
    rw [List.contains_iff_mem]
    unfold dsts
    rw [List.mem_filterMap]
    constructor
    · rintro ⟨o, ho, hd⟩
      obtain ⟨i, hi⟩ := List.getElem?_of_mem ho
      exact ⟨i, o, by simpa using hi, hd⟩
    · rintro ⟨i, o, ho, hd⟩
      exact ⟨o, List.mem_of_getElem? (by simpa using ho), hd⟩
  let I : Array Bool → Act → World → Prop := fun listed a w =>
    Below B w0 w ∧ (∀ (j : Nat) (oj : Oper) (e : Edge), listed.getD j false = true → ops[j]? = some oj → e ∈ oj.after → Region.binds .any e = true → listed.getD e.on false = true) ∧ listed.size = ops.size ∧ a.defers = a0.defers ∧ a.tmps.size = a0.tmps.size ∧ (∀ d : Tmp, (∀ (i : Nat) (o : Oper), listed.getD i false = true → ops[i]? = some o → o.dst ≠ some d) → a.tmps[d]? = a0.tmps[d]?) ∧
      (∀ (i : Nat) (o : Oper) (d : Tmp), listed.getD i false = true → ops[i]? = some o → o.dst = some d → (out.contains d = true ∨ ∃ (k : Nat) (ok : Oper), listed.getD k true = false ∧ ops[k]? = some ok ∧ reads ok i = true) → Since Φ d (a.tmps.getD d undef) w)
  obtain ⟨heS, heD, heW⟩ := fin_parts he
  let J : Array Bool → Act → World → Prop := fun listed a w => (listed.getD e false = false ∧ I listed a w) ∨ ∃ w1, I listed a w1 ∧ R w1 w ∧ ∀ i, i < ops.size → listed.getD i true = true
  refine wp_region_any hm (wpAny_inv J ?_ ?_ ops.size (Array.replicate ops.size false) a0 w0.drew (by simp) (.inl ⟨by rw [Array.getD_eq_getD_getElem?, Array.getElem?_replicate]; split <;> rfl, (Below.refl B w0).drew, fun j oj e hj => ?_, by simp, rfl, rfl, fun _ _ => rfl, fun i o d hi => ?_⟩))
  · rintro listed a w i (⟨heF, hI⟩ | ⟨w1, _, _, hall⟩) hi
    rotate_left 1
    · exfalso
      unfold Region.ready at hi
      have h := List.mem_filter.1 hi
      have his : i < ops.size := List.mem_range.1 h.1
      simp only [Bool.and_eq_true, Bool.not_eq_true'] at h
      have := hall i his
      rw [h.2.1] at this
      cases this
    have hI0 := hI
    obtain ⟨hk, hwait, hls, hdf, hts, hold, hdone⟩ := hI
    unfold Region.ready at hi
    have h := List.mem_filter.1 hi
    have his : i < ops.size := List.mem_range.1 h.1
    simp only [Bool.and_eq_true, Bool.not_eq_true'] at h
    have ho : ops[i]? = some ops[i] := Array.getElem?_eq_getElem his
    generalize ops[i] = o at ho
    have hdeps := h.2.2
    rw [ho] at hdeps
    simp only [Option.map_some, Option.getD_some] at hdeps
    have hs := AllSteps.get steps (i := i) (o := o) (by simpa using ho)
    rw [Nat.zero_add] at hs
    have hnl : listed.getD i true = false := h.2.1
    have hleans : Leans ops Φ a0 w0 B i o a w := by
      refine ⟨hk, hB, fun d hd => ?_, fun j d hj hjd => ?_, fun j d hj hjd => ?_⟩
      · have hnone : ∀ i o, listed.getD i false = true → ops[i]? = some o → o.dst ≠ some d := fun i o _ ho hd' => by
          rw [(mem d).2 ⟨i, o, ho, hd'⟩] at hd
          cases hd
        show a.tmps.getD d undef = a0.tmps.getD d undef
        rw [Array.getD_eq_getD_getElem?, Array.getD_eq_getD_getElem?, hold d hnone]
      · have hnone : ∀ i' o', listed.getD i' false = true → ops[i']? = some o' → o'.dst ≠ some d := fun i' o' hi' ho' hd' => by
          unfold waits at hj
          cases hoj : ops[j]? with
          | none => rw [hoj] at hjd; cases hjd
          | some oj =>
            rw [hoj] at hjd hj
            have hij : j = i' := by
              by_cases e : j = i'
              · exact e
              · exact absurd hd' (((ok j oj hoj).2 d hjd).2 i' o' ho' e)
            subst hij
            obtain ⟨e, he, hej⟩ := List.any_eq_true.1 hj
            simp only [Bool.and_eq_true, beq_iff_eq] at hej
            have := hwait j oj e hi' hoj (Array.mem_toList_iff.1 he) hej.2
            rw [hej.1] at this
            rw [Array.getD_eq_getD_getElem?] at this hnl
            rw [Array.getElem?_eq_getElem (by omega)] at this hnl
            simp at this hnl
            rw [this] at hnl
            cases hnl
        show a.tmps.getD d undef = a0.tmps.getD d undef
        rw [Array.getD_eq_getD_getElem?, Array.getD_eq_getD_getElem?, hold d hnone]
      · cases hoj : ops[j]? with
        | none => rw [hoj] at hjd; cases hjd
        | some oj =>
          rw [hoj] at hjd
          have hjd' : oj.dst = some d := hjd
          have hrd := hj
          obtain ⟨e, he, hej⟩ := List.any_eq_true.1 hj
          replace he := Array.mem_toList_iff.1 he
          simp only [Bool.and_eq_true, beq_iff_eq] at hej
          have hl := Array.all_eq_true_iff_forall_mem.1 hdeps e he
          have hbd : Region.binds .any e = true := by
            have h2 := hej.2
            unfold Region.binds
            cases hgr : e.ground <;> rw [hgr] at h2 <;> first | rfl | cases h2
          rw [hbd] at hl
          simp at hl
          have hlj : listed.getD j false = true := by
            rw [← hej.1, Array.getD_eq_getD_getElem?]
            exact hl
          have hdl : d < a.tmps.size := by rw [hts]; exact ((ok j oj hoj).2 d hjd').1
          refine ⟨?_, hdone j oj d hlj hoj hjd' (.inr ⟨i, o, hnl, ho, hrd⟩)⟩
          rw [Array.getElem?_eq_getElem hdl]
          show some _ = some (a.tmps.getD d undef)
          rw [Array.getD_eq_getD_getElem?, Array.getElem?_eq_getElem hdl]
          rfl
    by_cases hie : i = e
    · refine wpOp_step ho fun K' hK' => hs.2 hie a w K' hleans fun w' hR => hK' _ _ (.inr ⟨w, ?_, hR, ?_⟩)
      · subst hie
        rw [heD o ho]
        have hset : ∀ j, (listed.setIfInBounds i true).getD j false = true → j = i ∨ listed.getD j false = true := by
          intro j hj
          by_cases hji : j = i
          · exact .inl hji
          · right
            rw [Array.getD_eq_getD_getElem?, Array.getElem?_setIfInBounds_ne (fun h => hji h.symm)] at hj
            rw [Array.getD_eq_getD_getElem?]
            exact hj
        have hseti : (listed.setIfInBounds i true).getD i false = true := by
          rw [Array.getD_eq_getD_getElem?, Array.getElem?_setIfInBounds_self_of_lt (by omega)]
          rfl
        have hsetm : ∀ j, listed.getD j false = true → (listed.setIfInBounds i true).getD j false = true := by
          intro j hj
          by_cases hji : j = i
          · subst hji; exact hseti
          · rw [Array.getD_eq_getD_getElem?, Array.getElem?_setIfInBounds_ne (fun h => hji h.symm)]
            rw [Array.getD_eq_getD_getElem?] at hj
            exact hj
        refine ⟨hk, ?_, by simpa using hls, hdf, hts, ?_, ?_⟩
        · intro j oj e' hj hoj he' hb
          rcases hset j hj with hji | hlj
          · subst hji
            rw [ho] at hoj
            injection hoj with hoj
            subst hoj
            have hl := Array.all_eq_true_iff_forall_mem.1 hdeps e' he'
            rw [hb] at hl
            simp at hl
            refine hsetm _ ?_
            rw [Array.getD_eq_getD_getElem?]
            exact hl
          · exact hsetm _ (hwait j oj e' hlj hoj he' hb)
        · intro d hn
          exact hold d (fun j oj hj hoj => hn j oj (hsetm j hj) hoj)
        · intro j oj d hj hoj hdj hlive
          rcases hset j hj with hji | hlj
          · subst hji
            rw [ho] at hoj
            injection hoj with hoj
            subst hoj
            rw [heD o ho] at hdj
            cases hdj
          · refine hdone j oj d hlj hoj hdj (hlive.imp (fun h => h) fun ⟨k, ok, h1, h2, h3⟩ => ⟨k, ok, ?_, h2, h3⟩)
            by_cases hki : k = i
            · subst hki; exact hnl
            · rw [Array.getD_eq_getD_getElem?, Array.getElem?_setIfInBounds_ne (fun e => hki e.symm)] at h1
              rw [Array.getD_eq_getD_getElem?]
              exact h1
      · intro j hj
        by_cases hji : j = i
        · subst hji
          rw [Array.getD_eq_getD_getElem?, Array.getElem?_setIfInBounds_self_of_lt (by omega)]
          rfl
        · rw [Array.getD_eq_getD_getElem?, Array.getElem?_setIfInBounds_ne (fun h => hji h.symm)]
          subst hie
          obtain ⟨e', he', hb, hor⟩ := heW o ho j hj hji
          have hl := Array.all_eq_true_iff_forall_mem.1 hdeps e' he'
          rw [hb] at hl
          simp at hl
          have hl2 : listed.getD j false = true := by
            rcases hor with hon | ⟨ox, y, hox, hy, hyon, hyb⟩
            · rw [Array.getD_eq_getD_getElem?, ← hon]
              exact hl
            · have := hwait e'.on ox y (by rw [Array.getD_eq_getD_getElem?]; exact hl) hox hy hyb
              rw [hyon] at this
              exact this
          rw [Array.getD_eq_getD_getElem?, Array.getElem?_eq_getElem (by omega)] at hl2
          rw [Array.getElem?_eq_getElem (by omega)]
          simpa using hl2
    refine wpOp_step ho fun K' hK' => hs.1 hie a w K' hleans fun v w' hkw hsn hat => hK' _ _ (.inl ⟨?_, ?_⟩)
    · rw [Array.getD_eq_getD_getElem?, Array.getElem?_setIfInBounds_ne hie]
      rw [Array.getD_eq_getD_getElem?] at heF
      exact heF
    · have hset : ∀ j, (listed.setIfInBounds i true).getD j false = true → j = i ∨ listed.getD j false = true := by
        intro j hj
        by_cases hji : j = i
        · exact .inl hji
        · right
          rw [Array.getD_eq_getD_getElem?, Array.getElem?_setIfInBounds_ne (fun h => hji h.symm)] at hj
          rw [Array.getD_eq_getD_getElem?]
          exact hj
      have hseti : (listed.setIfInBounds i true).getD i false = true := by
        rw [Array.getD_eq_getD_getElem?, Array.getElem?_setIfInBounds_self_of_lt (by omega)]
        rfl
      have hsetm : ∀ j, listed.getD j false = true → (listed.setIfInBounds i true).getD j false = true := by
        intro j hj
        by_cases hji : j = i
        · subst hji; exact hseti
        · rw [Array.getD_eq_getD_getElem?, Array.getElem?_setIfInBounds_ne (fun h => hji h.symm)]
          rw [Array.getD_eq_getD_getElem?] at hj
          exact hj
      refine ⟨Below.trans hk hkw, ?_, by simpa using hls, ?_, ?_, ?_, ?_⟩
      · intro j oj e hj hoj he hb
        rcases hset j hj with hji | hlj
        · subst hji
          rw [ho] at hoj
          injection hoj with hoj
          subst hoj
          have hl := Array.all_eq_true_iff_forall_mem.1 hdeps e he
          rw [hb] at hl
          simp at hl
          refine hsetm _ ?_
          rw [Array.getD_eq_getD_getElem?]
          exact hl
        · exact hsetm _ (hwait j oj e hlj hoj he hb)
      · cases o.dst <;> exact hdf
      · cases hd : o.dst <;> simp [Act.put, hts]
      · intro d hn
        have hne : o.dst ≠ some d := hn i o hseti ho
        have := hold d (fun j oj hj hoj => hn j oj (hsetm j hj) hoj)
        rw [← this]
        cases hd : o.dst with
        | none => rfl
        | some d' =>
          have : d' ≠ d := fun h => hne (by rw [hd, h])
          simp [Act.put, Array.getElem?_setIfInBounds_ne this]
      · intro j oj d hj hoj hdj hlive
        by_cases hji : j = i
        · subst hji
          rw [ho] at hoj
          injection hoj with hoj
          subst hoj
          refine ⟨w', Kept.refl _, ?_⟩
          rw [hdj] at hat ⊢
          have hdl : d < a.tmps.size := by rw [hts]; exact ((ok j o ho).2 d hdj).1
          have : (a.put (some d) v).tmps.getD d undef = v := by
            rw [Array.getD_eq_getD_getElem?]
            simp [Act.put, hdl]
          rw [this]
          exact hat
        · have hlj : listed.getD j false = true := (hset j hj).resolve_left hji
          have hun : ∀ k, (listed.setIfInBounds i true).getD k true = false → k ≠ i ∧ listed.getD k true = false := by
            intro k hkf
            have hki : k ≠ i := by
              intro e
              subst e
              rw [Array.getD_eq_getD_getElem?, Array.getElem?_setIfInBounds_self_of_lt (by omega)] at hkf
              cases hkf
            refine ⟨hki, ?_⟩
            rw [Array.getD_eq_getD_getElem?, Array.getElem?_setIfInBounds_ne (fun e => hki e.symm)] at hkf
            rw [Array.getD_eq_getD_getElem?]
            exact hkf
          have hold2 : Since Φ d (a.tmps.getD d undef) w := hdone j oj d hlj hoj hdj (hlive.imp (fun h => h) fun ⟨k, ok, h1, h2, h3⟩ => ⟨k, ok, (hun k h1).2, h2, h3⟩)
          have hlv : live ops out i d = true := by
            unfold live
            rw [Bool.or_eq_true]
            refine hlive.imp (fun h => h) fun ⟨k, ok, h1, h2, h3⟩ => ?_
            have hks : k < ops.size := (Array.getElem?_eq_some_iff.1 h2).1
            have hjs : j < ops.size := (Array.getElem?_eq_some_iff.1 hoj).1
            refine List.any_eq_true.2 ⟨j, List.mem_range.2 hjs, ?_⟩
            rw [hoj]
            simp only [hdj, beq_self_eq_true, Bool.true_and]
            refine List.any_eq_true.2 ⟨k, List.mem_range.2 hks, ?_⟩
            rw [h2]
            simp [h3, (hun k h1).1]
          have hnew := hsn d _ (fun h => ((ok j oj hoj).2 d hdj).2 i o ho (fun e => hji e) h) hlv hold2
          cases hd : o.dst with
          | none => exact hnew
          | some d' =>
            have hne : d' ≠ d := fun h => ((ok j oj hoj).2 d hdj).2 i o ho (fun e => hji e) (by rw [hd, h])
            have : (a.put (some d') v).tmps.getD d undef = a.tmps.getD d undef := by
              rw [Array.getD_eq_getD_getElem?, Array.getD_eq_getD_getElem?]
              simp [Act.put, Array.getElem?_setIfInBounds_ne hne]
            rw [this]
            exact hnew
  · intro listed a w hJ hr
    have hls : listed.size = ops.size := by
      rcases hJ with ⟨_, h⟩ | ⟨_, h, _⟩
      · exact h.2.2.1
      · exact h.2.2.1
    have all : ∀ i, i < ops.size → listed.getD i false = true := by
      intro i
      induction i using Nat.strongRecOn with
      | ind i ih =>
        intro hi
        cases hb : listed.getD i false with
        | true => rfl
        | false =>
          exfalso
          have hli : listed[i]? = some false := by
            rw [Array.getD_eq_getD_getElem?, Array.getElem?_eq_getElem (by omega)] at hb
            rw [Array.getElem?_eq_getElem (by omega)]
            simpa using hb
          have ho : ops[i]? = some ops[i] := Array.getElem?_eq_getElem hi
          have : i ∈ Region.ready .any ops listed := by
            unfold Region.ready
            refine List.mem_filter.2 ⟨List.mem_range.2 hi, ?_⟩
            simp only [Bool.and_eq_true, Bool.not_eq_true']
            refine ⟨by rw [Array.getD_eq_getD_getElem?, hli]; rfl, ?_⟩
            rw [ho]
            simp only [Option.map_some, Option.getD_some]
            refine Array.all_eq_true_iff_forall_mem.2 fun e he => ?_
            cases hb : Region.binds .any e with
            | false => rfl
            | true =>
              have hlt := (ok i _ ho).1 e he hb
              rw [ih e.on hlt (by omega), Bool.or_true]
          rw [hr] at this
          cases this
    obtain ⟨w1, ⟨hk, hwait, _, hdf, hts, hold, hdone⟩, hR, _⟩ : ∃ w1, I listed a w1 ∧ R w1 w ∧ ∀ i, i < ops.size → listed.getD i true = true := by
      rcases hJ with ⟨h, _⟩ | h
      · rw [all e heS] at h
        cases h
      · exact h
    have hlt : ∀ d ∈ dsts ops, d < a0.tmps.size := fun d hd => by
      obtain ⟨i, o, ho, hdo⟩ := (mem d).1 (List.contains_iff_mem.2 hd)
      exact ((ok i o ho).2 d hdo).1
    have ha := act_fill (ds := dsts ops) hdf hts (fun d hd => hold d fun i o _ ho hdo => hd (List.contains_iff_mem.1 ((mem d).2 ⟨i, o, ho, hdo⟩))) hlt
    rw [ha]
    refine last _ w1 w hk (fun d hout hd => ?_) hR
    obtain ⟨i, o, ho, hdo⟩ := (mem d).1 hd
    exact hdone i o d (all i (Array.getElem?_eq_some_iff.1 ho).1) ho hdo (.inl hout)
  · rw [Array.getD_eq_getD_getElem?, Array.getElem?_replicate] at hj
    split at hj <;> cases hj
  · rw [Array.getD_eq_getD_getElem?, Array.getElem?_replicate] at hi
    split at hi <;> cases hi
end
end Go.Proofs.Ytgfhepfikphliaa.Wd
