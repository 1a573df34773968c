/-
  A region that draws its order, in which an operation (an append) may write a row that was there ahead of it.
-/
import Derived.Test.YtndfkpajojbfkaaRely
namespace Go.Proofs.Ytndfkpajojbfkaa.We
open Go.RowKit Wd
set_option linter.unusedVariables false

/-- is slot d still asked for, once operation i is done (what i waits for is done) -/
def liveE (ops : Array Oper) (out : List Tmp) (i : Nat) (d : Tmp) : Bool :=
  out.contains d || (List.range ops.size).any fun j => (match ops[j]? with | some oj => oj.dst == some d | none => false) &&
    (List.range ops.size).any fun k => k != i && !waits ops i k && (match ops[k]? with | some ok => reads ok j | none => false)
/-- is slot d written by an operation that waits for operation i -/
def later (ops : Array Oper) (i : Nat) (d : Tmp) : Bool := (List.range ops.size).any fun j => (ops[j]?).bind (·.dst) == some d && waits ops j i
/-- what an operation may lean on -/
structure LeansE (ops : Array Oper) (Φ : Tmp → Value → World → Prop) (a0 : Act) (w0 : World) (B : Nat) (e : Nat) (Θ : World → Prop) (i : Nat) (o : Oper) (a : Act) (w : World) : Prop where
  kept : Below B w0 w
  base : B ≤ w0.heap.size
  stay : ∀ w w', Kept w w' → Θ w → Θ w'
  /-- till e is done, the row is as it was -/
  still : (i = e ∨ waits ops e i = true) → Θ w
  old : ∀ d, (dsts ops).contains d = false → a.eval (.tmp d) = a0.eval (.tmp d)
  /-- a slot whose writer waits for this operation is as it was -/
  early : ∀ (j : Nat) (d : Tmp), waits ops j i = true → (ops[j]?).bind (·.dst) = some d → a.eval (.tmp d) = a0.eval (.tmp d)
  dep : ∀ (j : Nat) (d : Tmp), reads o j = true → (ops[j]?).bind (·.dst) = some d → a.tmps[d]? = some (a.eval (.tmp d)) ∧ Since Φ d (a.eval (.tmp d)) w

/-- what is owed for one operation -/
def StepE (P : Program) (ops : Array Oper) (Q : Exit → Act → World → Prop) (out : List Tmp) (Φ : Tmp → Value → World → Prop) (a0 : Act) (w0 : World) (B : Nat) (e : Nat) (Θ : World → Prop) (i : Nat) (o : Oper) : Prop :=
  ∀ (a : Act) (w : World) (K : Act → World → Prop), LeansE ops Φ a0 w0 B e Θ i o a w →
    (∀ v w', Below B w w' → (∀ d u, o.dst ≠ some d → liveE ops out i d = true → later ops i d = false → Since Φ d u w → Since Φ d u w') → (i = e ∨ waits ops i e = true ∨ (Θ w → Θ w')) → At Φ o.dst v w' → K (a.put o.dst v) w') →
    if Region.wanted o (yielded ops a.tmps) = true then Oper.wp P o a w K Q else K (a.put o.dst undef) w

section
variable {P : Program} {ops : Array Oper} {Q : Exit → Act → World → Prop}
variable {Φ : Tmp → Value → World → Prop} {a0 : Act} {w0 : World} {B : Nat} {e : Nat} {Θ : World → Prop} {o : Oper} {out : List Tmp} {i : Nat}
theorem StepE.raw (hg : o.guard = none) (h : ∀ a w K, LeansE ops Φ a0 w0 B e Θ i o a w →
    (∀ v w', Below B w w' → (∀ d u, o.dst ≠ some d → liveE ops out i d = true → later ops i d = false → Since Φ d u w → Since Φ d u w') → (i = e ∨ waits ops i e = true ∨ (Θ w → Θ w')) → At Φ o.dst v w' → K (a.put o.dst v) w') → Oper.wp P o a w K Q) : StepE P ops Q out Φ a0 w0 B e Θ i o := by
  intro a w K hl hK
  rw [if_pos (by simp [Region.wanted, hg])]
  exact h a w K hl hK
theorem StepE.plain (hg : o.guard = none) (h : ∀ a w K, LeansE ops Φ a0 w0 B e Θ i o a w → (∀ v w', Kept w w' → At Φ o.dst v w' → K (a.put o.dst v) w') → Oper.wp P o a w K Q) : StepE P ops Q out Φ a0 w0 B e Θ i o :=
  StepE.raw hg fun a w K hl hK => h a w K hl fun v w' hk hat => hK v w' (Below.mono hk (Nat.le_trans hl.base hl.kept.size)) (fun _ _ _ _ _ hs => hs.kept hk) (.inr (.inr (hl.stay _ _ hk))) hat
/-- its guard lets it be done -/
theorem StepE.yesRaw (g : Nat) (b : Bool) (d : Tmp) (hg : o.guard = some (g, b)) (he : reads o g = true) (hd : (ops[g]?).bind (·.dst) = some d) (hv : ∀ u w, Φ d u w → u = .bool b)
    (h : ∀ a w K, LeansE ops Φ a0 w0 B e Θ i o a w → (∀ v w', Below B w w' → (∀ d u, o.dst ≠ some d → liveE ops out i d = true → later ops i d = false → Since Φ d u w → Since Φ d u w') → (i = e ∨ waits ops i e = true ∨ (Θ w → Θ w')) → At Φ o.dst v w' → K (a.put o.dst v) w') → Oper.wp P o a w K Q) : StepE P ops Q out Φ a0 w0 B e Θ i o := by
  intro a w K hl hK
  obtain ⟨h1, w1, _, hφ⟩ := hl.dep g d he hd
  rw [hv _ _ hφ] at h1
  rw [if_pos (by simp [Region.wanted, hg, yielded, hd, h1])]
  exact h a w K hl hK
theorem StepE.yes (g : Nat) (b : Bool) (d : Tmp) (hg : o.guard = some (g, b)) (he : reads o g = true) (hd : (ops[g]?).bind (·.dst) = some d) (hv : ∀ u w, Φ d u w → u = .bool b)
    (h : ∀ a w K, LeansE ops Φ a0 w0 B e Θ i o a w → (∀ v w', Kept w w' → At Φ o.dst v w' → K (a.put o.dst v) w') → Oper.wp P o a w K Q) : StepE P ops Q out Φ a0 w0 B e Θ i o :=
  StepE.yesRaw g b d hg he hd hv fun a w K hl hK => h a w K hl fun v w' hk hat => hK v w' (Below.mono hk (Nat.le_trans hl.base hl.kept.size)) (fun _ _ _ _ _ hs => hs.kept hk) (.inr (.inr (hl.stay _ _ hk))) hat
/-- its guard passes it over -/
theorem StepE.no (g : Nat) (b : Bool) (d : Tmp) (hg : o.guard = some (g, b)) (he : reads o g = true) (hd : (ops[g]?).bind (·.dst) = some d) (hv : ∀ u w, Φ d u w → u ≠ .bool b)
    (h : ∀ w, At Φ o.dst undef w) : StepE P ops Q out Φ a0 w0 B e Θ i o := by
  intro a w K hl hK
  obtain ⟨h1, w1, _, hφ⟩ := hl.dep g d he hd
  have hne := hv _ _ hφ
  rw [if_neg ?_]
  · exact hK _ _ (Below.refl _ _) (fun _ _ _ _ _ hs => hs) (.inr (.inr fun h => h)) (h w)
  · simp only [Region.wanted, hg, yielded, hd, Option.bind_some, h1]
    split
    · rename_i b' hb
      injection hb with hb
      simp
      intro hbb
      subst hbb
      exact hne hb
    · simp

theorem StepE.move (x : Operand) (hg : o.guard = none) (ho : o.op = .move x) (h : ∀ a w, LeansE ops Φ a0 w0 B e Θ i o a w → At Φ o.dst (a.eval x) w) : StepE P ops Q out Φ a0 w0 B e Θ i o :=
  StepE.plain hg fun a w K hl hK => wp_val (a.eval x) (by unfold execOp; simp [ho]) (hK _ _ (Kept.refl _) (h a w hl))
theorem StepE.assign (x : Operand) (hg : o.guard = none) (ho : o.op = .assign x) (h : ∀ a w, LeansE ops Φ a0 w0 B e Θ i o a w → At Φ o.dst (a.eval x) w) : StepE P ops Q out Φ a0 w0 B e Θ i o :=
  StepE.plain hg fun a w K hl hK => wp_val (a.eval x) (by unfold execOp; simp [ho]) (hK _ _ (Kept.refl _) (h a w hl))
end
section
variable {P : Program} {ops : Array Oper} {Q : Exit → Act → World → Prop}
theorem wp_region_e {id : Nat} {a0 : Act} {w0 : World} (B : Nat) (hB : B ≤ w0.heap.size) (hm : P.follows .mixedOrders = true) (Φ : Tmp → Value → World → Prop) (n : Nat) (hn : a0.tmps.size = n) (hok : relyOk ops n = true)
    (out : List Tmp) (e : Nat) (Θ : World → Prop) (h0 : Θ w0) (stay : ∀ w w', Kept w w' → Θ w → Θ w') (steps : AllSteps (StepE P ops Q out Φ a0 w0 B e Θ) 0 ops.toList)
    (last : ∀ (f : Tmp → Value) (w : World), Below B w0 w → (∀ d, out.contains d = true → (dsts ops).contains d = true → Since Φ d (f d) w) → Q .normal (fill a0 (dsts ops) f) w) :
    (Code.region id ops true).wp P Q a0 w0 := by
  subst hn
  have ok : ∀ (i : Nat) (o : Oper), ops[i]? = some o → (∀ e ∈ o.after, Region.binds .any e = true → e.on < i) ∧ ∀ d, o.dst = some d → d < a0.tmps.size ∧ ∀ (j : Nat) (oj : Oper), ops[j]? = some oj → i ≠ j → oj.dst ≠ some d := by
    intro i o ho
    have hi : i < ops.size := (Array.getElem?_eq_some_iff.1 ho).1
    have h := List.all_eq_true.1 hok i (List.mem_range.2 hi)
    rw [ho] at h
    simp only [Bool.and_eq_true] at h
    refine ⟨fun e he hb => by have := Array.all_eq_true_iff_forall_mem.1 h.1 e he; rw [hb] at this; simpa using this, fun d hd => ?_⟩
    have h2 := h.2
    rw [hd] at h2
    simp only [Bool.and_eq_true, decide_eq_true_eq] at h2
    refine ⟨h2.1, fun j oj hj hne hdj => ?_⟩
    have hjs : j < ops.size := (Array.getElem?_eq_some_iff.1 hj).1
    have h3 := List.all_eq_true.1 h2.2 j (List.mem_range.2 hjs)
    rw [hj] at h3
    simp [hne, hdj] at h3
  have mem : ∀ d : Tmp, (dsts ops).contains d = true ↔ ∃ (i : Nat) (o : Oper), ops[i]? = some o ∧ o.dst = some d := by
    intro d
    rw [List.contains_iff_mem]
    unfold dsts
    rw [List.mem_filterMap]
    constructor
    · rintro ⟨o, ho, hd⟩
      obtain ⟨i, hi⟩ := List.getElem?_of_mem ho
      exact ⟨i, o, by simpa using hi, hd⟩
    · rintro ⟨i, o, ho, hd⟩
      exact ⟨o, List.mem_of_getElem? (by simpa using ho), hd⟩
  let I : Array Bool → Act → World → Prop := fun listed a w =>
    Below B w0 w ∧ (listed.getD e false = false → Θ w) ∧ (∀ (j : Nat) (oj : Oper) (e : Edge), listed.getD j false = true → ops[j]? = some oj → e ∈ oj.after → Region.binds .any e = true → listed.getD e.on false = true) ∧ listed.size = ops.size ∧ a.defers = a0.defers ∧ a.tmps.size = a0.tmps.size ∧ (∀ d : Tmp, (∀ (i : Nat) (o : Oper), listed.getD i false = true → ops[i]? = some o → o.dst ≠ some d) → a.tmps[d]? = a0.tmps[d]?) ∧
      (∀ (i : Nat) (o : Oper) (d : Tmp), listed.getD i false = true → ops[i]? = some o → o.dst = some d → (out.contains d = true ∨ ∃ (k : Nat) (ok : Oper), listed.getD k true = false ∧ ops[k]? = some ok ∧ reads ok i = true) → Since Φ d (a.tmps.getD d undef) w)
  refine wp_region_any hm (wpAny_inv I ?_ ?_ ops.size (Array.replicate ops.size false) a0 w0.drew (by simp) ⟨(Below.refl B w0).drew, fun _ => stay _ _ (Kept.drew w0) h0, fun j oj e hj => ?_, by simp, rfl, rfl, fun _ _ => rfl, fun i o d hi => ?_⟩)
  · rintro listed a w i ⟨hk, hth, hwait, hls, hdf, hts, hold, hdone⟩ hi
    unfold Region.ready at hi
    have h := List.mem_filter.1 hi
    have his : i < ops.size := List.mem_range.1 h.1
    simp only [Bool.and_eq_true, Bool.not_eq_true'] at h
    have ho : ops[i]? = some ops[i] := Array.getElem?_eq_getElem his
    generalize ops[i] = o at ho
    have hdeps := h.2.2
    rw [ho] at hdeps
    simp only [Option.map_some, Option.getD_some] at hdeps
    have hs := AllSteps.get steps (i := i) (o := o) (by simpa using ho)
    rw [Nat.zero_add] at hs
    have hnl : listed.getD i true = false := h.2.1
    refine wpOp_step ho fun K' hK' => hs a w K' ⟨hk, hB, stay, ?_, fun d hd => ?_, fun j d hj hjd => ?_, fun j d hj hjd => ?_⟩ (fun v w' hkw hsn hts2 hat => hK' _ _ ?_)
    · intro hie
      refine hth ?_
      rcases hie with rfl | hw
      · rw [Array.getD_eq_getD_getElem?] at hnl ⊢
        rw [Array.getElem?_eq_getElem (by omega)] at hnl ⊢
        simpa using hnl
      · cases hle : listed.getD e false with
        | false => rfl
        | true =>
          exfalso
          unfold waits at hw
          cases hoe : ops[e]? with
          | none => rw [hoe] at hw; cases hw
          | some oe =>
            rw [hoe] at hw
            obtain ⟨x, hx, hxe⟩ := List.any_eq_true.1 hw
            simp only [Bool.and_eq_true, beq_iff_eq] at hxe
            have := hwait e oe x hle hoe (Array.mem_toList_iff.1 hx) hxe.2
            rw [hxe.1] at this
            rw [Array.getD_eq_getD_getElem?] at this hnl
            rw [Array.getElem?_eq_getElem (by omega)] at this hnl
            simp at this hnl
            rw [this] at hnl
            cases hnl
    · have hnone : ∀ i o, listed.getD i false = true → ops[i]? = some o → o.dst ≠ some d := fun i o _ ho hd' => by
        rw [(mem d).2 ⟨i, o, ho, hd'⟩] at hd
        cases hd
      show a.tmps.getD d undef = a0.tmps.getD d undef
      rw [Array.getD_eq_getD_getElem?, Array.getD_eq_getD_getElem?, hold d hnone]
    · have hnone : ∀ i' o', listed.getD i' false = true → ops[i']? = some o' → o'.dst ≠ some d := fun i' o' hi' ho' hd' => by
        unfold waits at hj
        cases hoj : ops[j]? with
        | none => rw [hoj] at hjd; cases hjd
        | some oj =>
          rw [hoj] at hjd hj
          have hij : j = i' := by
            by_cases e : j = i'
            · exact e
            · exact absurd hd' (((ok j oj hoj).2 d hjd).2 i' o' ho' e)
          subst hij
          obtain ⟨e, he, hej⟩ := List.any_eq_true.1 hj
          simp only [Bool.and_eq_true, beq_iff_eq] at hej
          have := hwait j oj e hi' hoj (Array.mem_toList_iff.1 he) hej.2
          rw [hej.1] at this
          rw [Array.getD_eq_getD_getElem?] at this hnl
          rw [Array.getElem?_eq_getElem (by omega)] at this hnl
          simp at this hnl
          rw [this] at hnl
          cases hnl
      show a.tmps.getD d undef = a0.tmps.getD d undef
      rw [Array.getD_eq_getD_getElem?, Array.getD_eq_getD_getElem?, hold d hnone]
    · cases hoj : ops[j]? with
      | none => rw [hoj] at hjd; cases hjd
      | some oj =>
        rw [hoj] at hjd
        have hjd' : oj.dst = some d := hjd
        have hrd := hj
        obtain ⟨e, he, hej⟩ := List.any_eq_true.1 hj
        replace he := Array.mem_toList_iff.1 he
        simp only [Bool.and_eq_true, beq_iff_eq] at hej
        have hl := Array.all_eq_true_iff_forall_mem.1 hdeps e he
        have hbd : Region.binds .any e = true := by
          have h2 := hej.2
          unfold Region.binds
          cases hgr : e.ground <;> rw [hgr] at h2 <;> first | rfl | cases h2
        rw [hbd] at hl
        simp at hl
        have hlj : listed.getD j false = true := by
          rw [← hej.1, Array.getD_eq_getD_getElem?]
          exact hl
        have hdl : d < a.tmps.size := by rw [hts]; exact ((ok j oj hoj).2 d hjd').1
        refine ⟨?_, hdone j oj d hlj hoj hjd' (.inr ⟨i, o, hnl, ho, hrd⟩)⟩
        rw [Array.getElem?_eq_getElem hdl]
        show some _ = some (a.tmps.getD d undef)
        rw [Array.getD_eq_getD_getElem?, Array.getElem?_eq_getElem hdl]
        rfl
    · have hset : ∀ j, (listed.setIfInBounds i true).getD j false = true → j = i ∨ listed.getD j false = true := by
        intro j hj
        by_cases hji : j = i
        · exact .inl hji
        · right
          rw [Array.getD_eq_getD_getElem?, Array.getElem?_setIfInBounds_ne (fun h => hji h.symm)] at hj
          rw [Array.getD_eq_getD_getElem?]
          exact hj
      have hseti : (listed.setIfInBounds i true).getD i false = true := by
        rw [Array.getD_eq_getD_getElem?, Array.getElem?_setIfInBounds_self_of_lt (by omega)]
        rfl
      have hsetm : ∀ j, listed.getD j false = true → (listed.setIfInBounds i true).getD j false = true := by
        intro j hj
        by_cases hji : j = i
        · subst hji; exact hseti
        · rw [Array.getD_eq_getD_getElem?, Array.getElem?_setIfInBounds_ne (fun h => hji h.symm)]
          rw [Array.getD_eq_getD_getElem?] at hj
          exact hj
      refine ⟨Below.trans hk hkw, ?_, ?_, by simpa using hls, ?_, ?_, ?_, ?_⟩
      · intro hle
        have hle0 : listed.getD e false = false := by
          cases hx : listed.getD e false with
          | false => rfl
          | true => rw [hsetm e hx] at hle; cases hle
        rcases hts2 with rfl | hw | hstep
        · rw [hseti] at hle; cases hle
        · exfalso
          unfold waits at hw
          rw [ho] at hw
          obtain ⟨x, hx, hxe⟩ := List.any_eq_true.1 hw
          simp only [Bool.and_eq_true, beq_iff_eq] at hxe
          have hl := Array.all_eq_true_iff_forall_mem.1 hdeps x (Array.mem_toList_iff.1 hx)
          rw [hxe.2] at hl
          simp at hl
          rw [hxe.1] at hl
          rw [Array.getD_eq_getD_getElem?] at hle0
          rw [hl] at hle0
          cases hle0
        · exact hstep (hth hle0)
      · intro j oj e hj hoj he hb
        rcases hset j hj with hji | hlj
        · subst hji
          rw [ho] at hoj
          injection hoj with hoj
          subst hoj
          have hl := Array.all_eq_true_iff_forall_mem.1 hdeps e he
          rw [hb] at hl
          simp at hl
          refine hsetm _ ?_
          rw [Array.getD_eq_getD_getElem?]
          exact hl
        · exact hsetm _ (hwait j oj e hlj hoj he hb)
      · cases o.dst <;> exact hdf
      · cases hd : o.dst <;> simp [Act.put, hts]
      · intro d hn
        have hne : o.dst ≠ some d := hn i o hseti ho
        have := hold d (fun j oj hj hoj => hn j oj (hsetm j hj) hoj)
        rw [← this]
        cases hd : o.dst with
        | none => rfl
        | some d' =>
          have : d' ≠ d := fun h => hne (by rw [hd, h])
          simp [Act.put, Array.getElem?_setIfInBounds_ne this]
      · intro j oj d hj hoj hdj hlive
        by_cases hji : j = i
        · subst hji
          rw [ho] at hoj
          injection hoj with hoj
          subst hoj
          refine ⟨w', Kept.refl _, ?_⟩
          rw [hdj] at hat ⊢
          have hdl : d < a.tmps.size := by rw [hts]; exact ((ok j o ho).2 d hdj).1
          have : (a.put (some d) v).tmps.getD d undef = v := by
            rw [Array.getD_eq_getD_getElem?]
            simp [Act.put, hdl]
          rw [this]
          exact hat
        · have hlj : listed.getD j false = true := (hset j hj).resolve_left hji
          have hun : ∀ k, (listed.setIfInBounds i true).getD k true = false → k ≠ i ∧ listed.getD k true = false := by
            intro k hkf
            have hki : k ≠ i := by
              intro e
              subst e
              rw [Array.getD_eq_getD_getElem?, Array.getElem?_setIfInBounds_self_of_lt (by omega)] at hkf
              cases hkf
            refine ⟨hki, ?_⟩
            rw [Array.getD_eq_getD_getElem?, Array.getElem?_setIfInBounds_ne (fun e => hki e.symm)] at hkf
            rw [Array.getD_eq_getD_getElem?]
            exact hkf
          have hold2 : Since Φ d (a.tmps.getD d undef) w := hdone j oj d hlj hoj hdj (hlive.imp (fun h => h) fun ⟨k, ok, h1, h2, h3⟩ => ⟨k, ok, (hun k h1).2, h2, h3⟩)
          have hlv : liveE ops out i d = true := by
            unfold liveE
            rw [Bool.or_eq_true]
            refine hlive.imp (fun h => h) fun ⟨k, ok, h1, h2, h3⟩ => ?_
            have hks : k < ops.size := (Array.getElem?_eq_some_iff.1 h2).1
            have hjs : j < ops.size := (Array.getElem?_eq_some_iff.1 hoj).1
            refine List.any_eq_true.2 ⟨j, List.mem_range.2 hjs, ?_⟩
            rw [hoj]
            simp only [hdj, beq_self_eq_true, Bool.true_and]
            refine List.any_eq_true.2 ⟨k, List.mem_range.2 hks, ?_⟩
            rw [h2]
            have hnw : waits ops i k = false := by
              cases hw : waits ops i k with
              | false => rfl
              | true =>
                exfalso
                unfold waits at hw
                rw [ho] at hw
                obtain ⟨x, hx, hxe⟩ := List.any_eq_true.1 hw
                simp only [Bool.and_eq_true, beq_iff_eq] at hxe
                have hl := Array.all_eq_true_iff_forall_mem.1 hdeps x (Array.mem_toList_iff.1 hx)
                rw [hxe.2] at hl
                simp at hl
                rw [hxe.1] at hl
                have h9 := (hun k h1).2
                rw [Array.getD_eq_getD_getElem?, Array.getElem?_eq_getElem (by omega)] at h9
                rw [Array.getElem?_eq_getElem (by omega)] at hl
                simp at h9 hl
                rw [hl] at h9
                cases h9
            simp [h3, (hun k h1).1, hnw]
          have hlat : later ops i d = false := by
            cases hx : later ops i d with
            | false => rfl
            | true =>
              exfalso
              unfold later at hx
              obtain ⟨j', _, hj'⟩ := List.any_eq_true.1 hx
              simp only [Bool.and_eq_true, beq_iff_eq] at hj'
              cases hoj' : ops[j']? with
              | none => rw [hoj'] at hj'; cases hj'.1
              | some oj' =>
                rw [hoj'] at hj'
                have hd' : oj'.dst = some d := hj'.1
                have hjj : j = j' := by
                  by_cases e : j = j'
                  · exact e
                  · exact absurd hd' (((ok j oj hoj).2 d hdj).2 j' oj' hoj' e)
                subst hjj
                have hw := hj'.2
                unfold waits at hw
                rw [hoj'] at hw
                obtain ⟨x, hx, hxe⟩ := List.any_eq_true.1 hw
                simp only [Bool.and_eq_true, beq_iff_eq] at hxe
                have := hwait j oj' x hlj hoj' (Array.mem_toList_iff.1 hx) hxe.2
                rw [hxe.1] at this
                rw [Array.getD_eq_getD_getElem?] at this hnl
                rw [Array.getElem?_eq_getElem (by omega)] at this hnl
                simp at this hnl
                rw [this] at hnl
                cases hnl
          have hnew := hsn d _ (fun h => ((ok j oj hoj).2 d hdj).2 i o ho (fun e => hji e) h) hlv hlat hold2
          cases hd : o.dst with
          | none => exact hnew
          | some d' =>
            have hne : d' ≠ d := fun h => ((ok j oj hoj).2 d hdj).2 i o ho (fun e => hji e) (by rw [hd, h])
            have : (a.put (some d') v).tmps.getD d undef = a.tmps.getD d undef := by
              rw [Array.getD_eq_getD_getElem?, Array.getD_eq_getD_getElem?]
              simp [Act.put, Array.getElem?_setIfInBounds_ne hne]
            rw [this]
            exact hnew
  · rintro listed a w ⟨hk, hth, hwait, hls, hdf, hts, hold, hdone⟩ hr
    have all : ∀ i, i < ops.size → listed.getD i false = true := by
      intro i
      induction i using Nat.strongRecOn with
      | ind i ih =>
        intro hi
        cases hb : listed.getD i false with
        | true => rfl
        | false =>
          exfalso
          have hli : listed[i]? = some false := by
            rw [Array.getD_eq_getD_getElem?, Array.getElem?_eq_getElem (by omega)] at hb
            rw [Array.getElem?_eq_getElem (by omega)]
            simpa using hb
          have ho : ops[i]? = some ops[i] := Array.getElem?_eq_getElem hi
          have : i ∈ Region.ready .any ops listed := by
            unfold Region.ready
            refine List.mem_filter.2 ⟨List.mem_range.2 hi, ?_⟩
            simp only [Bool.and_eq_true, Bool.not_eq_true']
            refine ⟨by rw [Array.getD_eq_getD_getElem?, hli]; rfl, ?_⟩
            rw [ho]
            simp only [Option.map_some, Option.getD_some]
            refine Array.all_eq_true_iff_forall_mem.2 fun e he => ?_
            cases hb : Region.binds .any e with
            | false => rfl
            | true =>
              have hlt := (ok i _ ho).1 e he hb
              rw [ih e.on hlt (by omega), Bool.or_true]
          rw [hr] at this
          cases this
    have hlt : ∀ d ∈ dsts ops, d < a0.tmps.size := fun d hd => by
      obtain ⟨i, o, ho, hdo⟩ := (mem d).1 (List.contains_iff_mem.2 hd)
      exact ((ok i o ho).2 d hdo).1
    have ha := act_fill (ds := dsts ops) hdf hts (fun d hd => hold d fun i o _ ho hdo => hd (List.contains_iff_mem.1 ((mem d).2 ⟨i, o, ho, hdo⟩))) hlt
    rw [ha]
    refine last _ w hk fun d hout hd => ?_
    obtain ⟨i, o, ho, hdo⟩ := (mem d).1 hd
    exact hdone i o d (all i (Array.getElem?_eq_some_iff.1 ho).1) ho hdo (.inl hout)
  · rw [Array.getD_eq_getD_getElem?, Array.getElem?_replicate] at hj
    split at hj <;> cases hj
  · rw [Array.getD_eq_getD_getElem?, Array.getElem?_replicate] at hi
    split at hi <;> cases hi
end
end Go.Proofs.Ytndfkpajojbfkaa.We
