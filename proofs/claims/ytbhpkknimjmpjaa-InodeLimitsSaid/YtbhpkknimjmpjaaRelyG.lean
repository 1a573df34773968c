/-
  A region that draws its order, with a companion: what is known of the whole state, by which operations are done.
-/
import Derived.Test.YtbhpkknimjmpjaaRely
namespace Go.Proofs.Ytbhpkknimjmpjaa.Wd
open Go.RowKit
set_option linter.unusedVariables false
section
variable {P : Program} {ops : Array Oper} {Q : Exit → Act → World → Prop}

/-- is slot d still asked for, once operation i is done, where L tells what is done -/
def LiveL (ops : Array Oper) (out : List Tmp) (L : Array Bool) (i : Nat) (d : Tmp) : Prop :=
  out.contains d = true ∨ ∃ (j : Nat) (oj : Oper) (k : Nat) (ok : Oper), ops[j]? = some oj ∧ oj.dst = some d ∧ k ≠ i ∧ L.getD k true = false ∧ ops[k]? = some ok ∧ reads ok j = true
/-- the same, reckoned: the operations 'done' are done -/
def liveB (ops : Array Oper) (out : List Tmp) (done : List Nat) (i : Nat) (d : Tmp) : Bool :=
  out.contains d || (List.range ops.size).any fun j => (match ops[j]? with | some oj => oj.dst == some d | none => false) &&
    (List.range ops.size).any fun k => k != i && !done.contains k && (match ops[k]? with | some ok => reads ok j | none => false)
theorem LiveL.reckoned {ops : Array Oper} {out : List Tmp} {L : Array Bool} {i : Nat} {d : Tmp} (h : LiveL ops out L i d) (done : List Nat) (hd : ∀ j ∈ done, L.getD j false = true) (hls : L.size = ops.size) : liveB ops out done i d = true := by
  unfold liveB
  rw [Bool.or_eq_true]
  refine h.imp id fun ⟨j, oj, k, ok, h1, h2, h3, h4, h5, h6⟩ => ?_
  have hj := (Array.getElem?_eq_some_iff.1 h1).1
  have hk := (Array.getElem?_eq_some_iff.1 h5).1
  refine List.any_eq_true.2 ⟨j, List.mem_range.2 hj, ?_⟩
  rw [h1]
  simp only [h2, beq_self_eq_true, Bool.true_and]
  refine List.any_eq_true.2 ⟨k, List.mem_range.2 hk, ?_⟩
  rw [h5]
  have hnd : done.contains k = false := by
    cases hc : done.contains k
    · rfl
    · have := hd k (List.contains_iff_mem.1 hc)
      rw [Array.getD_eq_getD_getElem?, Array.getElem?_eq_getElem (by omega)] at this h4
      simp at this h4
      rw [this] at h4
      cases h4
  rw [hnd]
  simp [h6, h3]
/-- what is owed for one operation -/
def StepG (P : Program) (ops : Array Oper) (Q : Exit → Act → World → Prop) (out : List Tmp) (Φ : Tmp → Value → World → Prop) (Ψ : Array Bool → Act → World → Prop) (a0 : Act) (w0 : World) (B : Nat) (i : Nat) (o : Oper) : Prop :=
  ∀ (L : Array Bool) (a : Act) (w : World) (K : Act → World → Prop), Leans ops Φ a0 w0 B i o a w → Ψ L a w → L.size = ops.size → a.tmps.size = a0.tmps.size → L.getD i true = false → (∀ e ∈ o.after, Region.binds .any e = true → L.getD e.on false = true) → (∀ (j : Nat) (oj : Oper) (e : Edge), L.getD j false = true → ops[j]? = some oj → e ∈ oj.after → Region.binds .any e = true → L.getD e.on false = true) →
    (∀ v w', Below B w w' → (∀ d u, o.dst ≠ some d → LiveL ops out L i d → Since Φ d u w → Since Φ d u w') → At Φ o.dst v w' → Ψ (L.setIfInBounds i true) (a.put o.dst v) w' → K (a.put o.dst v) w') →
    if Region.wanted o (yielded ops a.tmps) = true then Oper.wp P o a w K Q else K (a.put o.dst undef) w

section
variable {Φ : Tmp → Value → World → Prop} {Ψ : Array Bool → Act → World → Prop} {a0 : Act} {w0 : World} {B : Nat} {o : Oper} {out : List Tmp} {i : Nat}
/-- an operation that turns nothing that was there: the companion has to stand it -/
theorem StepG.of (hg : o.guard = none) (h : ∀ a w K, Leans ops Φ a0 w0 B i o a w → (∀ v w', Kept w w' → At Φ o.dst v w' → K (a.put o.dst v) w') → Oper.wp P o a w K Q)
    (hp : ∀ (L : Array Bool) (a : Act) (w w' : World) (v : Value), Ψ L a w → a.tmps.size = a0.tmps.size → L.size = ops.size → Kept w w' → At Φ o.dst v w' → Ψ (L.setIfInBounds i true) (a.put o.dst v) w') : StepG P ops Q out Φ Ψ a0 w0 B i o := by
  intro L a w K hl hpsi hls hts _ _ _ hK
  rw [if_pos (by simp [Region.wanted, hg])]
  exact h a w K hl fun v w' hk hat => hK v w' (Below.mono hk (Nat.le_trans hl.base hl.kept.size)) (fun _ _ _ _ hs => hs.kept hk) hat (hp L a w w' v hpsi hts hls hk hat)
theorem StepG.raw (hg : o.guard = none) (h : ∀ (L : Array Bool) a w K, Leans ops Φ a0 w0 B i o a w → Ψ L a w → L.size = ops.size → a.tmps.size = a0.tmps.size → L.getD i true = false → (∀ e ∈ o.after, Region.binds .any e = true → L.getD e.on false = true) → (∀ (j : Nat) (oj : Oper) (e : Edge), L.getD j false = true → ops[j]? = some oj → e ∈ oj.after → Region.binds .any e = true → L.getD e.on false = true) →
    (∀ v w', Below B w w' → (∀ d u, o.dst ≠ some d → LiveL ops out L i d → Since Φ d u w → Since Φ d u w') → At Φ o.dst v w' → Ψ (L.setIfInBounds i true) (a.put o.dst v) w' → K (a.put o.dst v) w') → Oper.wp P o a w K Q) : StepG P ops Q out Φ Ψ a0 w0 B i o := by
  intro L a w K hl hpsi hls hts hnl hw hwt hK
  rw [if_pos (by simp [Region.wanted, hg])]
  exact h L a w K hl hpsi hls hts hnl hw hwt hK
end
theorem StepG.move {Φ : Tmp → Value → World → Prop} {Ψ : Array Bool → Act → World → Prop} {a0 : Act} {w0 : World} {B : Nat} {o : Oper} {out : List Tmp} {i : Nat} (x : Operand) (hg : o.guard = none) (ho : o.op = .move x)
    (h : ∀ a w, Leans ops Φ a0 w0 B i o a w → At Φ o.dst (a.eval x) w)
    (hp : ∀ (L : Array Bool) (a : Act) (w w' : World) (v : Value), Ψ L a w → a.tmps.size = a0.tmps.size → L.size = ops.size → Kept w w' → At Φ o.dst v w' → Ψ (L.setIfInBounds i true) (a.put o.dst v) w') : StepG P ops Q out Φ Ψ a0 w0 B i o :=
  StepG.of hg (fun a w K hl hK => wp_val (a.eval x) (by unfold execOp; simp [ho]) (hK _ _ (Kept.refl _) (h a w hl))) hp
theorem StepG.assign {Φ : Tmp → Value → World → Prop} {Ψ : Array Bool → Act → World → Prop} {a0 : Act} {w0 : World} {B : Nat} {o : Oper} {out : List Tmp} {i : Nat} (x : Operand) (hg : o.guard = none) (ho : o.op = .assign x)
    (h : ∀ a w, Leans ops Φ a0 w0 B i o a w → At Φ o.dst (a.eval x) w)
    (hp : ∀ (L : Array Bool) (a : Act) (w w' : World) (v : Value), Ψ L a w → a.tmps.size = a0.tmps.size → L.size = ops.size → Kept w w' → At Φ o.dst v w' → Ψ (L.setIfInBounds i true) (a.put o.dst v) w') : StepG P ops Q out Φ Ψ a0 w0 B i o :=
  StepG.of hg (fun a w K hl hK => wp_val (a.eval x) (by unfold execOp; simp [ho]) (hK _ _ (Kept.refl _) (h a w hl))) hp
theorem set_same {L : Array Bool} {i : Nat} (h : i < L.size) : (L.setIfInBounds i true).getD i false = true := by
  rw [Array.getD_eq_getD_getElem?, Array.getElem?_setIfInBounds_self_of_lt h]
  rfl
theorem set_other {L : Array Bool} {i j : Nat} (h : ¬ i = j) : (L.setIfInBounds i true).getD j false = L.getD j false := by
  rw [Array.getD_eq_getD_getElem?, Array.getElem?_setIfInBounds_ne h, Array.getD_eq_getD_getElem?]
theorem put_other {a : Act} {d : Option Tmp} {v : Value} {e : Tmp} (h : d ≠ some e) : (a.put d v).tmps.getD e undef = a.tmps.getD e undef := by
  cases d with
  | none => rfl
  | some d' =>
    have hne : d' ≠ e := fun hh => h (by rw [hh])
    simp [Act.put, Array.getD_eq_getD_getElem?, Array.getElem?_setIfInBounds_ne hne]
theorem put_same {a : Act} {d : Tmp} {v : Value} (h : d < a.tmps.size) : (a.put (some d) v).tmps.getD d undef = v := by
  simp [Act.put, Array.getD_eq_getD_getElem?, Array.getElem?_setIfInBounds_self_of_lt h]

theorem wp_region_relyG {id : Nat} {a0 : Act} {w0 : World} (B : Nat) (hB : B ≤ w0.heap.size) (hm : P.follows .mixedOrders = true) (Φ : Tmp → Value → World → Prop) (n : Nat) (hn : a0.tmps.size = n) (hok : relyOk ops n = true)
    (out : List Tmp) (Ψ : Array Bool → Act → World → Prop) (start : Ψ (Array.replicate ops.size false) a0 w0.drew) (steps : AllSteps (StepG P ops Q out Φ Ψ a0 w0 B) 0 ops.toList)
    (last : ∀ (f : Tmp → Value) (w : World) (L : Array Bool), Below B w0 w → (∀ d, out.contains d = true → (dsts ops).contains d = true → Since Φ d (f d) w) → (∀ i, i < ops.size → L.getD i false = true) → Ψ L (fill a0 (dsts ops) f) w → Q .normal (fill a0 (dsts ops) f) w) :
    (Code.region id ops true).wp P Q a0 w0 := by
  subst hn
  have ok : ∀ (i : Nat) (o : Oper), ops[i]? = some o → (∀ e ∈ o.after, Region.binds .any e = true → e.on < i) ∧ ∀ d, o.dst = some d → d < a0.tmps.size ∧ ∀ (j : Nat) (oj : Oper), ops[j]? = some oj → i ≠ j → oj.dst ≠ some d := by
    intro i o ho
    have hi : i < ops.size := (Array.getElem?_eq_some_iff.1 ho).1
    have h := List.all_eq_true.1 hok i (List.mem_range.2 hi)
    rw [ho] at h
    simp only [Bool.and_eq_true] at h
    refine ⟨fun e he hb => by have := Array.all_eq_true_iff_forall_mem.1 h.1 e he; rw [hb] at this; simpa using this, fun d hd => ?_⟩
    have h2 := h.2
    rw [hd] at h2
    simp only [Bool.and_eq_true, decide_eq_true_eq] at h2
    refine ⟨h2.1, fun j oj hj hne hdj => ?_⟩
    have hjs : j < ops.size := (Array.getElem?_eq_some_iff.1 hj).1
    have h3 := List.all_eq_true.1 h2.2 j (List.mem_range.2 hjs)
    rw [hj] at h3
    simp [hne, hdj] at h3
  have mem : ∀ d : Tmp, (dsts ops).contains d = true ↔ ∃ (i : Nat) (o : Oper), ops[i]? = some o ∧ o.dst = some d := by
    intro d
    rw [List.contains_iff_mem]
    unfold dsts
    rw [List.mem_filterMap]
    constructor
    · rintro ⟨o, ho, hd⟩
      obtain ⟨i, hi⟩ := List.getElem?_of_mem ho
      exact ⟨i, o, by simpa using hi, hd⟩
    · rintro ⟨i, o, ho, hd⟩
      exact ⟨o, List.mem_of_getElem? (by simpa using ho), hd⟩
  let I : Array Bool → Act → World → Prop := fun listed a w =>
    Below B w0 w ∧ (∀ (j : Nat) (oj : Oper) (e : Edge), listed.getD j false = true → ops[j]? = some oj → e ∈ oj.after → Region.binds .any e = true → listed.getD e.on false = true) ∧ listed.size = ops.size ∧ a.defers = a0.defers ∧ a.tmps.size = a0.tmps.size ∧ (∀ d : Tmp, (∀ (i : Nat) (o : Oper), listed.getD i false = true → ops[i]? = some o → o.dst ≠ some d) → a.tmps[d]? = a0.tmps[d]?) ∧
      (∀ (i : Nat) (o : Oper) (d : Tmp), listed.getD i false = true → ops[i]? = some o → o.dst = some d → (out.contains d = true ∨ ∃ (k : Nat) (ok : Oper), listed.getD k true = false ∧ ops[k]? = some ok ∧ reads ok i = true) → Since Φ d (a.tmps.getD d undef) w)
  refine wp_region_any hm (wpAny_inv (fun l a w => I l a w ∧ Ψ l a w) ?_ ?_ ops.size (Array.replicate ops.size false) a0 w0.drew (by simp) ⟨⟨(Below.refl B w0).drew, fun j oj e hj => ?_, by simp, rfl, rfl, fun _ _ => rfl, fun i o d hi => ?_⟩, start⟩)
  · rintro listed a w i ⟨⟨hk, hwait, hls, hdf, hts, hold, hdone⟩, hpsi⟩ hi
    unfold Region.ready at hi
    have h := List.mem_filter.1 hi
    have his : i < ops.size := List.mem_range.1 h.1
    simp only [Bool.and_eq_true, Bool.not_eq_true'] at h
    have ho : ops[i]? = some ops[i] := Array.getElem?_eq_getElem his
    generalize ops[i] = o at ho
    have hdeps := h.2.2
    rw [ho] at hdeps
    simp only [Option.map_some, Option.getD_some] at hdeps
    have hs := AllSteps.get steps (i := i) (o := o) (by simpa using ho)
    rw [Nat.zero_add] at hs
    have hnl : listed.getD i true = false := h.2.1
    refine wpOp_step ho fun K' hK' => hs listed a w K' ⟨hk, hB, fun d hd => ?_, fun j d hj hjd => ?_, fun j d hj hjd => ?_⟩ hpsi hls hts hnl (fun e he hb => ?_) hwait (fun v w' hkw hsn hat hpn => hK' _ _ ⟨?_, hpn⟩)
    · have hnone : ∀ i o, listed.getD i false = true → ops[i]? = some o → o.dst ≠ some d := fun i o _ ho hd' => by
        rw [(mem d).2 ⟨i, o, ho, hd'⟩] at hd
        cases hd
      show a.tmps.getD d undef = a0.tmps.getD d undef
      rw [Array.getD_eq_getD_getElem?, Array.getD_eq_getD_getElem?, hold d hnone]
    · have hnone : ∀ i' o', listed.getD i' false = true → ops[i']? = some o' → o'.dst ≠ some d := fun i' o' hi' ho' hd' => by
        unfold waits at hj
        cases hoj : ops[j]? with
        | none => rw [hoj] at hjd; cases hjd
        | some oj =>
          rw [hoj] at hjd hj
          have hij : j = i' := by
            by_cases e : j = i'
            · exact e
            · exact absurd hd' (((ok j oj hoj).2 d hjd).2 i' o' ho' e)
          subst hij
          obtain ⟨e, he, hej⟩ := List.any_eq_true.1 hj
          simp only [Bool.and_eq_true, beq_iff_eq] at hej
          have := hwait j oj e hi' hoj (Array.mem_toList_iff.1 he) hej.2
          rw [hej.1] at this
          rw [Array.getD_eq_getD_getElem?] at this hnl
          rw [Array.getElem?_eq_getElem (by omega)] at this hnl
          simp at this hnl
          rw [this] at hnl
          cases hnl
      show a.tmps.getD d undef = a0.tmps.getD d undef
      rw [Array.getD_eq_getD_getElem?, Array.getD_eq_getD_getElem?, hold d hnone]
    · cases hoj : ops[j]? with
      | none => rw [hoj] at hjd; cases hjd
      | some oj =>
        rw [hoj] at hjd
        have hjd' : oj.dst = some d := hjd
        have hrd := hj
        obtain ⟨e, he, hej⟩ := List.any_eq_true.1 hj
        replace he := Array.mem_toList_iff.1 he
        simp only [Bool.and_eq_true, beq_iff_eq] at hej
        have hl := Array.all_eq_true_iff_forall_mem.1 hdeps e he
        have hbd : Region.binds .any e = true := by
          have h2 := hej.2
          unfold Region.binds
          cases hgr : e.ground <;> rw [hgr] at h2 <;> first | rfl | cases h2
        rw [hbd] at hl
        simp at hl
        have hlj : listed.getD j false = true := by
          rw [← hej.1, Array.getD_eq_getD_getElem?]
          exact hl
        have hdl : d < a.tmps.size := by rw [hts]; exact ((ok j oj hoj).2 d hjd').1
        refine ⟨?_, hdone j oj d hlj hoj hjd' (.inr ⟨i, o, hnl, ho, hrd⟩)⟩
        rw [Array.getElem?_eq_getElem hdl]
        show some _ = some (a.tmps.getD d undef)
        rw [Array.getD_eq_getD_getElem?, Array.getElem?_eq_getElem hdl]
        rfl
    · have hl := Array.all_eq_true_iff_forall_mem.1 hdeps e he
      rw [hb] at hl
      simp at hl
      rw [Array.getD_eq_getD_getElem?]
      exact hl
    · have hset : ∀ j, (listed.setIfInBounds i true).getD j false = true → j = i ∨ listed.getD j false = true := by
        intro j hj
        by_cases hji : j = i
        · exact .inl hji
        · right
          rw [Array.getD_eq_getD_getElem?, Array.getElem?_setIfInBounds_ne (fun h => hji h.symm)] at hj
          rw [Array.getD_eq_getD_getElem?]
          exact hj
      have hseti : (listed.setIfInBounds i true).getD i false = true := by
        rw [Array.getD_eq_getD_getElem?, Array.getElem?_setIfInBounds_self_of_lt (by omega)]
        rfl
      have hsetm : ∀ j, listed.getD j false = true → (listed.setIfInBounds i true).getD j false = true := by
        intro j hj
        by_cases hji : j = i
        · subst hji; exact hseti
        · rw [Array.getD_eq_getD_getElem?, Array.getElem?_setIfInBounds_ne (fun h => hji h.symm)]
          rw [Array.getD_eq_getD_getElem?] at hj
          exact hj
      refine ⟨Below.trans hk hkw, ?_, by simpa using hls, ?_, ?_, ?_, ?_⟩
      · intro j oj e hj hoj he hb
        rcases hset j hj with hji | hlj
        · subst hji
          rw [ho] at hoj
          injection hoj with hoj
          subst hoj
          have hl := Array.all_eq_true_iff_forall_mem.1 hdeps e he
          rw [hb] at hl
          simp at hl
          refine hsetm _ ?_
          rw [Array.getD_eq_getD_getElem?]
          exact hl
        · exact hsetm _ (hwait j oj e hlj hoj he hb)
      · cases o.dst <;> exact hdf
      · cases hd : o.dst <;> simp [Act.put, hts]
      · intro d hn
        have hne : o.dst ≠ some d := hn i o hseti ho
        have := hold d (fun j oj hj hoj => hn j oj (hsetm j hj) hoj)
        rw [← this]
        cases hd : o.dst with
        | none => rfl
        | some d' =>
          have : d' ≠ d := fun h => hne (by rw [hd, h])
          simp [Act.put, Array.getElem?_setIfInBounds_ne this]
      · intro j oj d hj hoj hdj hlive
        by_cases hji : j = i
        · subst hji
          rw [ho] at hoj
          injection hoj with hoj
          subst hoj
          refine ⟨w', Kept.refl _, ?_⟩
          rw [hdj] at hat ⊢
          have hdl : d < a.tmps.size := by rw [hts]; exact ((ok j o ho).2 d hdj).1
          have : (a.put (some d) v).tmps.getD d undef = v := by
            rw [Array.getD_eq_getD_getElem?]
            simp [Act.put, hdl]
          rw [this]
          exact hat
        · have hlj : listed.getD j false = true := (hset j hj).resolve_left hji
          have hun : ∀ k, (listed.setIfInBounds i true).getD k true = false → k ≠ i ∧ listed.getD k true = false := by
            intro k hkf
            have hki : k ≠ i := by
              intro e
              subst e
              rw [Array.getD_eq_getD_getElem?, Array.getElem?_setIfInBounds_self_of_lt (by omega)] at hkf
              cases hkf
            refine ⟨hki, ?_⟩
            rw [Array.getD_eq_getD_getElem?, Array.getElem?_setIfInBounds_ne (fun e => hki e.symm)] at hkf
            rw [Array.getD_eq_getD_getElem?]
            exact hkf
          have hold2 : Since Φ d (a.tmps.getD d undef) w := hdone j oj d hlj hoj hdj (hlive.imp (fun h => h) fun ⟨k, ok, h1, h2, h3⟩ => ⟨k, ok, (hun k h1).2, h2, h3⟩)
          have hlv : LiveL ops out listed i d := hlive.imp (fun h => h) fun ⟨k, ok, h1, h2, h3⟩ => ⟨j, oj, k, ok, hoj, hdj, (hun k h1).1, (hun k h1).2, h2, h3⟩
          have hnew := hsn d _ (fun h => ((ok j oj hoj).2 d hdj).2 i o ho (fun e => hji e) h) hlv hold2
          cases hd : o.dst with
          | none => exact hnew
          | some d' =>
            have hne : d' ≠ d := fun h => ((ok j oj hoj).2 d hdj).2 i o ho (fun e => hji e) (by rw [hd, h])
            have : (a.put (some d') v).tmps.getD d undef = a.tmps.getD d undef := by
              rw [Array.getD_eq_getD_getElem?, Array.getD_eq_getD_getElem?]
              simp [Act.put, Array.getElem?_setIfInBounds_ne hne]
            rw [this]
            exact hnew
  · rintro listed a w ⟨⟨hk, hwait, hls, hdf, hts, hold, hdone⟩, hpsi⟩ hr
    have all : ∀ i, i < ops.size → listed.getD i false = true := by
      intro i
      induction i using Nat.strongRecOn with
      | ind i ih =>
        intro hi
        cases hb : listed.getD i false with
        | true => rfl
        | false =>
          exfalso
          have hli : listed[i]? = some false := by
            rw [Array.getD_eq_getD_getElem?, Array.getElem?_eq_getElem (by omega)] at hb
            rw [Array.getElem?_eq_getElem (by omega)]
            simpa using hb
          have ho : ops[i]? = some ops[i] := Array.getElem?_eq_getElem hi
          have : i ∈ Region.ready .any ops listed := by
            unfold Region.ready
            refine List.mem_filter.2 ⟨List.mem_range.2 hi, ?_⟩
            simp only [Bool.and_eq_true, Bool.not_eq_true']
            refine ⟨by rw [Array.getD_eq_getD_getElem?, hli]; rfl, ?_⟩
            rw [ho]
            simp only [Option.map_some, Option.getD_some]
            refine Array.all_eq_true_iff_forall_mem.2 fun e he => ?_
            cases hb : Region.binds .any e with
            | false => rfl
            | true =>
              have hlt := (ok i _ ho).1 e he hb
              rw [ih e.on hlt (by omega), Bool.or_true]
          rw [hr] at this
          cases this
    have hlt : ∀ d ∈ dsts ops, d < a0.tmps.size := fun d hd => by
      obtain ⟨i, o, ho, hdo⟩ := (mem d).1 (List.contains_iff_mem.2 hd)
      exact ((ok i o ho).2 d hdo).1
    have ha := act_fill (ds := dsts ops) hdf hts (fun d hd => hold d fun i o _ ho hdo => hd (List.contains_iff_mem.1 ((mem d).2 ⟨i, o, ho, hdo⟩))) hlt
    rw [ha] at hpsi ⊢
    refine last _ w listed hk (fun d hout hd => ?_) all hpsi
    obtain ⟨i, o, ho, hdo⟩ := (mem d).1 hd
    exact hdone i o d (all i (Array.getElem?_eq_some_iff.1 ho).1) ho hdo (.inl hout)
  · rw [Array.getD_eq_getD_getElem?, Array.getElem?_replicate] at hj
    split at hj <;> cases hj
  · rw [Array.getD_eq_getD_getElem?, Array.getElem?_replicate] at hi
    split at hi <;> cases hi
end
end Go.Proofs.Ytbhpkknimjmpjaa.Wd
