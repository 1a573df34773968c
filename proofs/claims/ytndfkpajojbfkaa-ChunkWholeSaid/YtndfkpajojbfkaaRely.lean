/-
  A region that draws its order, walked once: each operation is done in whatever state its own predecessors have left, and says of its result what stays true while nothing that was there turns.
-/
import Derived.Test.YtndfkpajojbfkaaWords
import Derived.RegionTactic
import Derived.BigCall
namespace Go.Proofs.Ytndfkpajojbfkaa.Wd
open Go.RowKit
set_option linter.unusedVariables false

/-- what there was is as it was -/
def Kept (w w' : World) : Prop := Below w.heap.size w w'
theorem Kept.refl (w : World) : Kept w w := Below.refl _ _
theorem Kept.trans {a b c : World} (h : Kept a b) (k : Kept b c) : Kept a c := Below.trans h (k.mono h.size)
theorem Kept.drew (w : World) : Kept w w.drew := (Below.refl _ _).drew
theorem Sl.kept {w w' : World} {B size n : Nat} {A : Option Addr} {xs : List Value} (h : Sl w B size A n xs) (hB : B ≤ w.heap.size) (hk : Kept w w') : Sl w' w'.heap.size size A n xs := h.on hB hk

theorem count_set : ∀ (l : List Bool) (i : Nat), l[i]? = some false → (l.set i true).count false + 1 = l.count false
  | [], i, h => by simp at h
  | b :: l, 0, h => by
    simp at h
    subst h
    simp
  | b :: l, i + 1, h => by
    have := count_set l i (by simpa using h)
    simp only [List.set_cons_succ, List.count_cons]
    omega

section
variable {P : Program} {ops : Array Oper} {Q : Exit → Act → World → Prop}

theorem wpAny_inv (I : Array Bool → Act → World → Prop)
    (step : ∀ listed a w i, I listed a w → i ∈ Region.ready .any ops listed → wpOp P ops Q i (I (listed.setIfInBounds i true)) a w)
    (last : ∀ listed a w, I listed a w → Region.ready .any ops listed = [] → Q .normal a w) :
    ∀ (fuel : Nat) (listed : Array Bool) (a : Act) (w : World), listed.toList.count false ≤ fuel → I listed a w → wpAny P .any ops Q fuel listed a w := by
  have unlisted : ∀ (listed : Array Bool) i, i ∈ Region.ready .any ops listed → listed.toList[i]? = some false := by
    intro listed i hi
    unfold Region.ready at hi
    have h := (List.mem_filter.1 hi).2
    simp only [Bool.and_eq_true, Bool.not_eq_true'] at h
    have h1 := h.1
    rw [Array.getD_eq_getD_getElem?] at h1
    cases hx : listed[i]? with
    | none => rw [hx] at h1; simp at h1
    | some b =>
      rw [hx] at h1
      simp at h1
      subst h1
      simpa using hx
  intro fuel
  induction fuel with
  | zero =>
    intro listed a w hf hI
    have hr : Region.ready .any ops listed = [] := by
      cases hr : Region.ready .any ops listed with
      | nil => rfl
      | cons i r =>
        have := count_set _ i (unlisted listed i (by rw [hr]; simp))
        omega
    exact ⟨hr, last _ _ _ hI hr⟩
  | succ fuel ih =>
    intro listed a w hf hI
    refine ⟨fun hr => last _ _ _ hI hr, fun i hi => wpOp_mono (fun a' w' hI' => ih _ a' w' ?_ hI') (step listed a w i hI hi)⟩
    have := count_set _ i (unlisted listed i hi)
    rw [Array.toList_setIfInBounds]
    omega

def fill (a0 : Act) (ds : List Tmp) (f : Tmp → Value) : Act := ds.foldl (fun a d => a.put (some d) (f d)) a0

theorem fill_get (f : Tmp → Value) (k : Nat) : ∀ (ds : List Tmp) (a0 : Act), (fill a0 ds f).tmps[k]? = (if k ∈ ds ∧ k < a0.tmps.size then some (f k) else a0.tmps[k]?) ∧ (fill a0 ds f).tmps.size = a0.tmps.size ∧ (fill a0 ds f).defers = a0.defers
  | [], a0 => by simp [fill]
  | d :: ds, a0 => by
    have ih := fill_get f k ds (a0.put (some d) (f d))
    have hs : (a0.put (some d) (f d)).tmps.size = a0.tmps.size := by simp [Act.put]
    have hd : (a0.put (some d) (f d)).defers = a0.defers := rfl
    have hg : (a0.put (some d) (f d)).tmps[k]? = if d = k ∧ k < a0.tmps.size then some (f k) else a0.tmps[k]? := by
      simp only [Act.put, Array.getElem?_setIfInBounds]
      by_cases h : d = k
      · subst h
        by_cases hlt : d < a0.tmps.size <;> simp [hlt]
      · simp [h]
    rw [hs, hd, hg] at ih
    refine ⟨ih.1.trans ?_, ih.2.1, ih.2.2⟩
    by_cases h1 : k ∈ ds <;> by_cases h2 : d = k <;> by_cases h3 : k < a0.tmps.size <;> simp [h1, h2, h3, eq_comm]
    all_goals first | (intro h; exact absurd h.symm h2) | skip

theorem act_fill {a a0 : Act} {ds : List Tmp} (hd : a.defers = a0.defers) (hs : a.tmps.size = a0.tmps.size) (ho : ∀ d, d ∉ ds → a.tmps[d]? = a0.tmps[d]?) (hlt : ∀ d ∈ ds, d < a0.tmps.size) :
    a = fill a0 ds (fun d => a.tmps.getD d undef) := by
  have h := fun k => fill_get (fun d => a.tmps.getD d undef) k ds a0
  have ht : a.tmps = (fill a0 ds (fun d => a.tmps.getD d undef)).tmps := by
    apply Array.ext_getElem?
    intro k
    rw [(h k).1]
    split
    · rename_i hk
      rw [Array.getD_eq_getD_getElem?, Array.getElem?_eq_getElem (by omega)]
      rfl
    · rename_i hk
      refine ho k fun hm => hk ⟨hm, hlt k hm⟩
  have h0 := (h 0).2.2
  obtain ⟨b, hb⟩ : ∃ b, b = fill a0 ds (fun d => a.tmps.getD d undef) := ⟨_, rfl⟩
  rw [← hb] at ht h0 ⊢
  clear hb h
  cases a
  cases b
  simp only at ht h0 hd
  subst ht
  rw [hd, ← h0]

def dsts (ops : Array Oper) : List Tmp := ops.toList.filterMap (·.dst)
/-- closed facts on the region: an edge leads back; no two operations write one slot; a slot lies in the frame -/
def relyOk (ops : Array Oper) (n : Nat) : Bool :=
  (List.range ops.size).all fun i => match ops[i]? with
    | none => true
    | some o => o.after.all (fun e => decide (e.on < i) || !Region.binds .any e) && (match o.dst with
      | none => true
      | some d => decide (d < n) && (List.range ops.size).all fun j => i == j || match ops[j]? with
        | none => true
        | some oj => oj.dst != some d)

def At (Φ : Tmp → Value → World → Prop) (d : Option Tmp) (v : Value) (w : World) : Prop := match d with | none => True | some d => Φ d v w

/-- does an operation read what operation j has left, or is it guarded by it -/
def reads (o : Oper) (j : Nat) : Bool := o.after.toList.any fun e => e.on == j && (match e.ground with | .data => true | .guard => true | _ => false)
/-- what is known of a slot, since the world in which it was written -/
def Since (Φ : Tmp → Value → World → Prop) (d : Tmp) (u : Value) (w : World) : Prop := ∃ w1, Kept w1 w ∧ Φ d u w1
/-- is slot d still asked for, once operation i is done -/
def live (ops : Array Oper) (out : List Tmp) (i : Nat) (d : Tmp) : Bool :=
  out.contains d || (List.range ops.size).any fun j => (match ops[j]? with | some oj => oj.dst == some d | none => false) &&
    (List.range ops.size).any fun k => k != i && (match ops[k]? with | some ok => reads ok j | none => false)

/-- does operation j wait for operation i -/
def waits (ops : Array Oper) (j i : Nat) : Bool := match ops[j]? with | none => false | some oj => oj.after.toList.any fun e => e.on == i && Region.binds .any e
/-- what an operation may lean on -/
structure Leans (ops : Array Oper) (Φ : Tmp → Value → World → Prop) (a0 : Act) (w0 : World) (B : Nat) (i : Nat) (o : Oper) (a : Act) (w : World) : Prop where
  kept : Below B w0 w
  base : B ≤ w0.heap.size
  old : ∀ d, (dsts ops).contains d = false → a.eval (.tmp d) = a0.eval (.tmp d)
  /-- a slot whose writer waits for this operation is as it was -/
  early : ∀ (j : Nat) (d : Tmp), waits ops j i = true → (ops[j]?).bind (·.dst) = some d → a.eval (.tmp d) = a0.eval (.tmp d)
  dep : ∀ (j : Nat) (d : Tmp), reads o j = true → (ops[j]?).bind (·.dst) = some d → a.tmps[d]? = some (a.eval (.tmp d)) ∧ Since Φ d (a.eval (.tmp d)) w

/-- what is owed for one operation -/
def Step (P : Program) (ops : Array Oper) (Q : Exit → Act → World → Prop) (out : List Tmp) (Φ : Tmp → Value → World → Prop) (a0 : Act) (w0 : World) (B : Nat) (i : Nat) (o : Oper) : Prop :=
  ∀ (a : Act) (w : World) (K : Act → World → Prop), Leans ops Φ a0 w0 B i o a w →
    (∀ v w', Below B w w' → (∀ d u, o.dst ≠ some d → live ops out i d = true → Since Φ d u w → Since Φ d u w') → At Φ o.dst v w' → K (a.put o.dst v) w') →
    if Region.wanted o (yielded ops a.tmps) = true then Oper.wp P o a w K Q else K (a.put o.dst undef) w

def AllSteps (S : Nat → Oper → Prop) : Nat → List Oper → Prop
  | _, [] => True
  | k, o :: r => S k o ∧ AllSteps S (k + 1) r
theorem AllSteps.nil {S : Nat → Oper → Prop} {k : Nat} : AllSteps S k [] := trivial
theorem AllSteps.cons {S : Nat → Oper → Prop} {k : Nat} {o : Oper} {r : List Oper} (h : S k o) (hr : AllSteps S (k + 1) r) : AllSteps S k (o :: r) := ⟨h, hr⟩
theorem AllSteps.get {S : Nat → Oper → Prop} : ∀ {l : List Oper} {k i : Nat} {o : Oper}, AllSteps S k l → l[i]? = some o → S (k + i) o
  | [], k, i, o, _, h => by simp at h
  | x :: l, k, 0, o, hs, h => by simp at h; subst h; exact hs.1
  | x :: l, k, i + 1, o, hs, h => by
    have := AllSteps.get hs.2 (i := i) (o := o) (by simpa using h)
    rwa [show k + 1 + i = k + (i + 1) by omega] at this

section
variable {Φ : Tmp → Value → World → Prop} {a0 : Act} {w0 : World} {B : Nat} {o : Oper} {out : List Tmp} {i : Nat}
/-- where nothing that was there turns, all that is known stays known -/
theorem Since.kept {d : Tmp} {u : Value} {w w' : World} (h : Since Φ d u w) (hk : Kept w w') : Since Φ d u w' := let ⟨w1, h1, h2⟩ := h; ⟨w1, h1.trans hk, h2⟩
theorem Step.raw (hg : o.guard = none) (h : ∀ a w K, Leans ops Φ a0 w0 B i o a w →
    (∀ v w', Below B w w' → (∀ d u, o.dst ≠ some d → live ops out i d = true → Since Φ d u w → Since Φ d u w') → At Φ o.dst v w' → K (a.put o.dst v) w') → Oper.wp P o a w K Q) : Step P ops Q out Φ a0 w0 B i o := by
  intro a w K hl hK
  rw [if_pos (by simp [Region.wanted, hg])]
  exact h a w K hl hK
theorem Step.plain (hg : o.guard = none) (h : ∀ a w K, Leans ops Φ a0 w0 B i o a w → (∀ v w', Kept w w' → At Φ o.dst v w' → K (a.put o.dst v) w') → Oper.wp P o a w K Q) : Step P ops Q out Φ a0 w0 B i o :=
  Step.raw hg fun a w K hl hK => h a w K hl fun v w' hk hat => hK v w' (Below.mono hk (Nat.le_trans hl.base hl.kept.size)) (fun _ _ _ _ hs => hs.kept hk) hat
/-- its guard lets it be done -/
theorem Step.yesRaw (g : Nat) (b : Bool) (d : Tmp) (hg : o.guard = some (g, b)) (he : reads o g = true) (hd : (ops[g]?).bind (·.dst) = some d) (hv : ∀ u w, Φ d u w → u = .bool b)
    (h : ∀ a w K, Leans ops Φ a0 w0 B i o a w → (∀ v w', Below B w w' → (∀ d u, o.dst ≠ some d → live ops out i d = true → Since Φ d u w → Since Φ d u w') → At Φ o.dst v w' → K (a.put o.dst v) w') → Oper.wp P o a w K Q) : Step P ops Q out Φ a0 w0 B i o := by
  intro a w K hl hK
  obtain ⟨h1, w1, _, hφ⟩ := hl.dep g d he hd
  rw [hv _ _ hφ] at h1
  rw [if_pos (by simp [Region.wanted, hg, yielded, hd, h1])]
  exact h a w K hl hK
theorem Step.yes (g : Nat) (b : Bool) (d : Tmp) (hg : o.guard = some (g, b)) (he : reads o g = true) (hd : (ops[g]?).bind (·.dst) = some d) (hv : ∀ u w, Φ d u w → u = .bool b)
    (h : ∀ a w K, Leans ops Φ a0 w0 B i o a w → (∀ v w', Kept w w' → At Φ o.dst v w' → K (a.put o.dst v) w') → Oper.wp P o a w K Q) : Step P ops Q out Φ a0 w0 B i o :=
  Step.yesRaw g b d hg he hd hv fun a w K hl hK => h a w K hl fun v w' hk hat => hK v w' (Below.mono hk (Nat.le_trans hl.base hl.kept.size)) (fun _ _ _ _ hs => hs.kept hk) hat
/-- its guard passes it over -/
theorem Step.no (g : Nat) (b : Bool) (d : Tmp) (hg : o.guard = some (g, b)) (he : reads o g = true) (hd : (ops[g]?).bind (·.dst) = some d) (hv : ∀ u w, Φ d u w → u ≠ .bool b)
    (h : ∀ w, At Φ o.dst undef w) : Step P ops Q out Φ a0 w0 B i o := by
  intro a w K hl hK
  obtain ⟨h1, w1, _, hφ⟩ := hl.dep g d he hd
  have hne := hv _ _ hφ
  rw [if_neg ?_]
  · exact hK _ _ (Below.refl _ _) (fun _ _ _ _ hs => hs) (h w)
  · simp only [Region.wanted, hg, yielded, hd, Option.bind_some, h1]
    split
    · rename_i b' hb
      injection hb with hb
      simp
      intro hbb
      subst hbb
      exact hne hb
    · simp

/-- an operation that only reckons: its run is known -/
theorem wp_val {a : Act} {w : World} {K : Act → World → Prop} (v : Value) (hr : (execOp a.eval o).run P w = .ok (.value v) w) (h : K (a.put o.dst v) w) : Oper.wp P o a w K Q := by
  unfold Oper.wp
  rw [hr]
  exact h
theorem Step.move (x : Operand) (hg : o.guard = none) (ho : o.op = .move x) (h : ∀ a w, Leans ops Φ a0 w0 B i o a w → At Φ o.dst (a.eval x) w) : Step P ops Q out Φ a0 w0 B i o :=
  Step.plain hg fun a w K hl hK => wp_val (a.eval x) (by unfold execOp; simp [ho]) (hK _ _ (Kept.refl _) (h a w hl))
theorem Step.assign (x : Operand) (hg : o.guard = none) (ho : o.op = .assign x) (h : ∀ a w, Leans ops Φ a0 w0 B i o a w → At Φ o.dst (a.eval x) w) : Step P ops Q out Φ a0 w0 B i o :=
  Step.plain hg fun a w K hl hK => wp_val (a.eval x) (by unfold execOp; simp [ho]) (hK _ _ (Kept.refl _) (h a w hl))
theorem wp_conv {a : Act} {w : World} {K : Act → World → Prop} {src dst e : TypeId} {x : Operand} (ho : o.op = .convert src dst x) (hs : P.underlying src = some (.slice e)) (he : P.underlying e = some (.int .u8)) (hd : P.underlying dst = some .string)
    {A : Option Addr} {n c B : Nat} {l : List UInt8} (hx : a.eval x = .slice A n c) (hsl : Sl w B 1 A n (l.map bv)) (h : K (a.put o.dst (.string (str l))) w) : Oper.wp P o a w K Q := by
  refine wp_val (.string (str l)) ?_ h
  have hrun := run_convert_sl (P := P) w src dst e hs he hd (c := c) (by have := hsl.1; simpa using this.symm) hsl
  unfold execOp
  simp [ho, hx, hrun]
/-- a call of a function of the program: by its contract -/
theorem wp_call {a : Act} {w : World} {K : Act → World → Prop} {f : FuncId} {args : Array Operand} {ts : Array TypeId} (ho : o.op = .call { callee := .value (.func f), args := args, argTypes := ts })
    {fn : Func} (hfn : P.funcs[f]? = some fn) (hn : (fn.name == "runtime.NumGoroutine") = false) (hb : fn.body.isNone = false) (vals : Array Value) (hv : args.map a.eval = vals)
    (h : Calls P f vals w fun e w' => ∃ v, e = .returned v ∧ K (a.put o.dst v) w') : Oper.wp P o a w K Q := by
  subst hv
  obtain ⟨dst, op, type, pos, after, guard⟩ := o
  simp only at ho
  subst ho
  have hr : (execOp a.eval { dst, op := .call { callee := .value (.func f), args := args, argTypes := ts }, type, pos, after, guard }).run P w = .ok (.enter f (args.map a.eval)) w := by
    rw [execOp_call_go]
    have hn' : ¬ fn.name = "runtime.NumGoroutine" := by simpa using hn
    have hb' : ¬ fn.body = none := by
      intro h
      rw [h] at hb
      cases hb
    simp [callFunc, hfn, hn', hb', program, Sem.run]
  unfold Oper.wp
  rw [hr]
  refine Calls.mono h fun e w' he => ?_
  obtain ⟨v, rfl, hk⟩ := he
  exact hk
theorem run_bin_str (a : Act) (w : World) {op : BinOp} {t t' : TypeId} {x y : Operand} (ho : o.op = .binOp op t x y t') (hop : op = .add ∨ op = .eql ∨ op = .neq) {p q : ByteArray} (hx : a.eval x = .string p) (hy : a.eval y = .string q) {u : Value}
    (hr : (Op.stringOp op p q).run P w = .ok u w) : (execOp a.eval o).run P w = .ok (.value u) w := by
  have hg : (eqGuard op t x y (.string p) (.string q)).run P w = .ok () w := by rcases hop with rfl | rfl | rfl <;> rfl
  have hb : (binOp op t (.string p) (.string q)).run P w = .ok u w := by rcases hop with rfl | rfl | rfl <;> exact hr
  unfold execOp
  simp [ho, hx, hy, hg, hb]
theorem wp_add_str {a : Act} {w : World} {K : Act → World → Prop} {t t' : TypeId} {x y : Operand} (ho : o.op = .binOp .add t x y t') {p q : ByteArray} (hx : a.eval x = .string p) (hy : a.eval y = .string q)
    (hs : p.size + q.size ≤ 9223372036854775807) (h : K (a.put o.dst (.string (p ++ q))) w) : Oper.wp P o a w K Q :=
  wp_val _ (run_bin_str a w ho (.inl rfl) hx hy (run_string_add_sum (P := P) w p q hs)) h
theorem wp_eql_str {a : Act} {w : World} {K : Act → World → Prop} {t t' : TypeId} {x y : Operand} (ho : o.op = .binOp .eql t x y t') {p q : ByteArray} (hx : a.eval x = .string p) (hy : a.eval y = .string q)
    (b : Bool) (hb : (p.toList == q.toList) = b) (h : K (a.put o.dst (.bool b)) w) : Oper.wp P o a w K Q := by
  subst hb
  exact wp_val _ (run_bin_str a w ho (.inr (.inl rfl)) hx hy (by simp [Op.stringOp])) h
theorem wp_neq_str {a : Act} {w : World} {K : Act → World → Prop} {t t' : TypeId} {x y : Operand} (ho : o.op = .binOp .neq t x y t') {p q : ByteArray} (hx : a.eval x = .string p) (hy : a.eval y = .string q)
    (b : Bool) (hb : (p.toList != q.toList) = b) (h : K (a.put o.dst (.bool b)) w) : Oper.wp P o a w K Q := by
  subst hb
  exact wp_val _ (run_bin_str a w ho (.inr (.inr rfl)) hx hy (by simp [Op.stringOp, bne])) h
theorem wp_pick {a : Act} {w : World} {K : Act → World → Prop} {c x y : Operand} (ho : o.op = .pick c x y) (b : Bool) (hc : a.eval c = .bool b) (h : K (a.put o.dst (if b then a.eval x else a.eval y)) w) : Oper.wp P o a w K Q := by
  refine wp_val _ ?_ h
  unfold execOp
  simp [ho, hc, asBool]
end

theorem wp_region_relyB {id : Nat} {a0 : Act} {w0 : World} (B : Nat) (hB : B ≤ w0.heap.size) (hm : P.follows .mixedOrders = true) (Φ : Tmp → Value → World → Prop) (n : Nat) (hn : a0.tmps.size = n) (hok : relyOk ops n = true)
    (out : List Tmp) (steps : AllSteps (Step P ops Q out Φ a0 w0 B) 0 ops.toList)
    (last : ∀ (f : Tmp → Value) (w : World), Below B w0 w → (∀ d, out.contains d = true → (dsts ops).contains d = true → Since Φ d (f d) w) → Q .normal (fill a0 (dsts ops) f) w) :
    (Code.region id ops true).wp P Q a0 w0 := by
  subst hn
  have ok : ∀ (i : Nat) (o : Oper), ops[i]? = some o → (∀ e ∈ o.after, Region.binds .any e = true → e.on < i) ∧ ∀ d, o.dst = some d → d < a0.tmps.size ∧ ∀ (j : Nat) (oj : Oper), ops[j]? = some oj → i ≠ j → oj.dst ≠ some d := by
    intro i o ho
    have hi : i < ops.size := (Array.getElem?_eq_some_iff.1 ho).1
    have h := List.all_eq_true.1 hok i (List.mem_range.2 hi)
    rw [ho] at h
    simp only [Bool.and_eq_true] at h
    refine ⟨fun e he hb => by have := Array.all_eq_true_iff_forall_mem.1 h.1 e he; rw [hb] at this; simpa using this, fun d hd => ?_⟩
    have h2 := h.2
    rw [hd] at h2
    simp only [Bool.and_eq_true, decide_eq_true_eq] at h2
    refine ⟨h2.1, fun j oj hj hne hdj => ?_⟩
    have hjs : j < ops.size := (Array.getElem?_eq_some_iff.1 hj).1
    have h3 := List.all_eq_true.1 h2.2 j (List.mem_range.2 hjs)
    rw [hj] at h3
    simp [hne, hdj] at h3
  have mem : ∀ d : Tmp, (dsts ops).contains d = true ↔ ∃ (i : Nat) (o : Oper), ops[i]? = some o ∧ o.dst = some d := by
    intro d
    rw [List.contains_iff_mem]
    unfold dsts
    rw [List.mem_filterMap]
    constructor
    · rintro ⟨o, ho, hd⟩
      obtain ⟨i, hi⟩ := List.getElem?_of_mem ho
      exact ⟨i, o, by simpa using hi, hd⟩
    · rintro ⟨i, o, ho, hd⟩
      exact ⟨o, List.mem_of_getElem? (by simpa using ho), hd⟩
  let I : Array Bool → Act → World → Prop := fun listed a w =>
    Below B w0 w ∧ (∀ (j : Nat) (oj : Oper) (e : Edge), listed.getD j false = true → ops[j]? = some oj → e ∈ oj.after → Region.binds .any e = true → listed.getD e.on false = true) ∧ listed.size = ops.size ∧ a.defers = a0.defers ∧ a.tmps.size = a0.tmps.size ∧ (∀ d : Tmp, (∀ (i : Nat) (o : Oper), listed.getD i false = true → ops[i]? = some o → o.dst ≠ some d) → a.tmps[d]? = a0.tmps[d]?) ∧
      (∀ (i : Nat) (o : Oper) (d : Tmp), listed.getD i false = true → ops[i]? = some o → o.dst = some d → (out.contains d = true ∨ ∃ (k : Nat) (ok : Oper), listed.getD k true = false ∧ ops[k]? = some ok ∧ reads ok i = true) → Since Φ d (a.tmps.getD d undef) w)
  refine wp_region_any hm (wpAny_inv I ?_ ?_ ops.size (Array.replicate ops.size false) a0 w0.drew (by simp) ⟨(Below.refl B w0).drew, fun j oj e hj => ?_, by simp, rfl, rfl, fun _ _ => rfl, fun i o d hi => ?_⟩)
  · rintro listed a w i ⟨hk, hwait, hls, hdf, hts, hold, hdone⟩ hi
    unfold Region.ready at hi
    have h := List.mem_filter.1 hi
    have his : i < ops.size := List.mem_range.1 h.1
    simp only [Bool.and_eq_true, Bool.not_eq_true'] at h
    have ho : ops[i]? = some ops[i] := Array.getElem?_eq_getElem his
    generalize ops[i] = o at ho
    have hdeps := h.2.2
    rw [ho] at hdeps
    simp only [Option.map_some, Option.getD_some] at hdeps
    have hs := AllSteps.get steps (i := i) (o := o) (by simpa using ho)
    rw [Nat.zero_add] at hs
    have hnl : listed.getD i true = false := h.2.1
    refine wpOp_step ho fun K' hK' => hs a w K' ⟨hk, hB, fun d hd => ?_, fun j d hj hjd => ?_, fun j d hj hjd => ?_⟩ (fun v w' hkw hsn hat => hK' _ _ ?_)
    · have hnone : ∀ i o, listed.getD i false = true → ops[i]? = some o → o.dst ≠ some d := fun i o _ ho hd' => by
        rw [(mem d).2 ⟨i, o, ho, hd'⟩] at hd
        cases hd
      show a.tmps.getD d undef = a0.tmps.getD d undef
      rw [Array.getD_eq_getD_getElem?, Array.getD_eq_getD_getElem?, hold d hnone]
    · have hnone : ∀ i' o', listed.getD i' false = true → ops[i']? = some o' → o'.dst ≠ some d := fun i' o' hi' ho' hd' => by
        unfold waits at hj
        cases hoj : ops[j]? with
        | none => rw [hoj] at hjd; cases hjd
        | some oj =>
          rw [hoj] at hjd hj
          have hij : j = i' := by
            by_cases e : j = i'
            · exact e
            · exact absurd hd' (((ok j oj hoj).2 d hjd).2 i' o' ho' e)
          subst hij
          obtain ⟨e, he, hej⟩ := List.any_eq_true.1 hj
          simp only [Bool.and_eq_true, beq_iff_eq] at hej
          have := hwait j oj e hi' hoj (Array.mem_toList_iff.1 he) hej.2
          rw [hej.1] at this
          rw [Array.getD_eq_getD_getElem?] at this hnl
          rw [Array.getElem?_eq_getElem (by omega)] at this hnl
          simp at this hnl
          rw [this] at hnl
          cases hnl
      show a.tmps.getD d undef = a0.tmps.getD d undef
      rw [Array.getD_eq_getD_getElem?, Array.getD_eq_getD_getElem?, hold d hnone]
    · cases hoj : ops[j]? with
      | none => rw [hoj] at hjd; cases hjd
      | some oj =>
        rw [hoj] at hjd
        have hjd' : oj.dst = some d := hjd
        have hrd := hj
        obtain ⟨e, he, hej⟩ := List.any_eq_true.1 hj
        replace he := Array.mem_toList_iff.1 he
        simp only [Bool.and_eq_true, beq_iff_eq] at hej
        have hl := Array.all_eq_true_iff_forall_mem.1 hdeps e he
        have hbd : Region.binds .any e = true := by
          have h2 := hej.2
          unfold Region.binds
          cases hgr : e.ground <;> rw [hgr] at h2 <;> first | rfl | cases h2
        rw [hbd] at hl
        simp at hl
        have hlj : listed.getD j false = true := by
          rw [← hej.1, Array.getD_eq_getD_getElem?]
          exact hl
        have hdl : d < a.tmps.size := by rw [hts]; exact ((ok j oj hoj).2 d hjd').1
        refine ⟨?_, hdone j oj d hlj hoj hjd' (.inr ⟨i, o, hnl, ho, hrd⟩)⟩
        rw [Array.getElem?_eq_getElem hdl]
        show some _ = some (a.tmps.getD d undef)
        rw [Array.getD_eq_getD_getElem?, Array.getElem?_eq_getElem hdl]
        rfl
    · have hset : ∀ j, (listed.setIfInBounds i true).getD j false = true → j = i ∨ listed.getD j false = true := by
        intro j hj
        by_cases hji : j = i
        · exact .inl hji
        · right
          rw [Array.getD_eq_getD_getElem?, Array.getElem?_setIfInBounds_ne (fun h => hji h.symm)] at hj
          rw [Array.getD_eq_getD_getElem?]
          exact hj
      have hseti : (listed.setIfInBounds i true).getD i false = true := by
        rw [Array.getD_eq_getD_getElem?, Array.getElem?_setIfInBounds_self_of_lt (by omega)]
        rfl
      have hsetm : ∀ j, listed.getD j false = true → (listed.setIfInBounds i true).getD j false = true := by
        intro j hj
        by_cases hji : j = i
        · subst hji; exact hseti
        · rw [Array.getD_eq_getD_getElem?, Array.getElem?_setIfInBounds_ne (fun h => hji h.symm)]
          rw [Array.getD_eq_getD_getElem?] at hj
          exact hj
      refine ⟨Below.trans hk hkw, ?_, by simpa using hls, ?_, ?_, ?_, ?_⟩
      · intro j oj e hj hoj he hb
        rcases hset j hj with hji | hlj
        · subst hji
          rw [ho] at hoj
          injection hoj with hoj
          subst hoj
          have hl := Array.all_eq_true_iff_forall_mem.1 hdeps e he
          rw [hb] at hl
          simp at hl
          refine hsetm _ ?_
          rw [Array.getD_eq_getD_getElem?]
          exact hl
        · exact hsetm _ (hwait j oj e hlj hoj he hb)
      · cases o.dst <;> exact hdf
      · cases hd : o.dst <;> simp [Act.put, hts]
      · intro d hn
        have hne : o.dst ≠ some d := hn i o hseti ho
        have := hold d (fun j oj hj hoj => hn j oj (hsetm j hj) hoj)
        rw [← this]
        cases hd : o.dst with
        | none => rfl
        | some d' =>
          have : d' ≠ d := fun h => hne (by rw [hd, h])
          simp [Act.put, Array.getElem?_setIfInBounds_ne this]
      · intro j oj d hj hoj hdj hlive
        by_cases hji : j = i
        · subst hji
          rw [ho] at hoj
          injection hoj with hoj
          subst hoj
          refine ⟨w', Kept.refl _, ?_⟩
          rw [hdj] at hat ⊢
          have hdl : d < a.tmps.size := by rw [hts]; exact ((ok j o ho).2 d hdj).1
          have : (a.put (some d) v).tmps.getD d undef = v := by
            rw [Array.getD_eq_getD_getElem?]
            simp [Act.put, hdl]
          rw [this]
          exact hat
        · have hlj : listed.getD j false = true := (hset j hj).resolve_left hji
          have hun : ∀ k, (listed.setIfInBounds i true).getD k true = false → k ≠ i ∧ listed.getD k true = false := by
            intro k hkf
            have hki : k ≠ i := by
              intro e
              subst e
              rw [Array.getD_eq_getD_getElem?, Array.getElem?_setIfInBounds_self_of_lt (by omega)] at hkf
              cases hkf
            refine ⟨hki, ?_⟩
            rw [Array.getD_eq_getD_getElem?, Array.getElem?_setIfInBounds_ne (fun e => hki e.symm)] at hkf
            rw [Array.getD_eq_getD_getElem?]
            exact hkf
          have hold2 : Since Φ d (a.tmps.getD d undef) w := hdone j oj d hlj hoj hdj (hlive.imp (fun h => h) fun ⟨k, ok, h1, h2, h3⟩ => ⟨k, ok, (hun k h1).2, h2, h3⟩)
          have hlv : live ops out i d = true := by
            unfold live
            rw [Bool.or_eq_true]
            refine hlive.imp (fun h => h) fun ⟨k, ok, h1, h2, h3⟩ => ?_
            have hks : k < ops.size := (Array.getElem?_eq_some_iff.1 h2).1
            have hjs : j < ops.size := (Array.getElem?_eq_some_iff.1 hoj).1
            refine List.any_eq_true.2 ⟨j, List.mem_range.2 hjs, ?_⟩
            rw [hoj]
            simp only [hdj, beq_self_eq_true, Bool.true_and]
            refine List.any_eq_true.2 ⟨k, List.mem_range.2 hks, ?_⟩
            rw [h2]
            simp [h3, (hun k h1).1]
          have hnew := hsn d _ (fun h => ((ok j oj hoj).2 d hdj).2 i o ho (fun e => hji e) h) hlv hold2
          cases hd : o.dst with
          | none => exact hnew
          | some d' =>
            have hne : d' ≠ d := fun h => ((ok j oj hoj).2 d hdj).2 i o ho (fun e => hji e) (by rw [hd, h])
            have : (a.put (some d') v).tmps.getD d undef = a.tmps.getD d undef := by
              rw [Array.getD_eq_getD_getElem?, Array.getD_eq_getD_getElem?]
              simp [Act.put, Array.getElem?_setIfInBounds_ne hne]
            rw [this]
            exact hnew
  · rintro listed a w ⟨hk, hwait, hls, hdf, hts, hold, hdone⟩ hr
    have all : ∀ i, i < ops.size → listed.getD i false = true := by
      intro i
      induction i using Nat.strongRecOn with
      | ind i ih =>
        intro hi
        cases hb : listed.getD i false with
        | true => rfl
        | false =>
          exfalso
          have hli : listed[i]? = some false := by
            rw [Array.getD_eq_getD_getElem?, Array.getElem?_eq_getElem (by omega)] at hb
            rw [Array.getElem?_eq_getElem (by omega)]
            simpa using hb
          have ho : ops[i]? = some ops[i] := Array.getElem?_eq_getElem hi
          have : i ∈ Region.ready .any ops listed := by
            unfold Region.ready
            refine List.mem_filter.2 ⟨List.mem_range.2 hi, ?_⟩
            simp only [Bool.and_eq_true, Bool.not_eq_true']
            refine ⟨by rw [Array.getD_eq_getD_getElem?, hli]; rfl, ?_⟩
            rw [ho]
            simp only [Option.map_some, Option.getD_some]
            refine Array.all_eq_true_iff_forall_mem.2 fun e he => ?_
            cases hb : Region.binds .any e with
            | false => rfl
            | true =>
              have hlt := (ok i _ ho).1 e he hb
              rw [ih e.on hlt (by omega), Bool.or_true]
          rw [hr] at this
          cases this
    have hlt : ∀ d ∈ dsts ops, d < a0.tmps.size := fun d hd => by
      obtain ⟨i, o, ho, hdo⟩ := (mem d).1 (List.contains_iff_mem.2 hd)
      exact ((ok i o ho).2 d hdo).1
    have ha := act_fill (ds := dsts ops) hdf hts (fun d hd => hold d fun i o _ ho hdo => hd (List.contains_iff_mem.1 ((mem d).2 ⟨i, o, ho, hdo⟩))) hlt
    rw [ha]
    refine last _ w hk fun d hout hd => ?_
    obtain ⟨i, o, ho, hdo⟩ := (mem d).1 hd
    exact hdone i o d (all i (Array.getElem?_eq_some_iff.1 ho).1) ho hdo (.inl hout)
  · rw [Array.getD_eq_getD_getElem?, Array.getElem?_replicate] at hj
    split at hj <;> cases hj
  · rw [Array.getD_eq_getD_getElem?, Array.getElem?_replicate] at hi
    split at hi <;> cases hi
theorem wp_region_rely {id : Nat} {a0 : Act} {w0 : World} (hm : P.follows .mixedOrders = true) (Φ : Tmp → Value → World → Prop) (n : Nat) (hn : a0.tmps.size = n) (hok : relyOk ops n = true)
    (out : List Tmp) (steps : AllSteps (Step P ops Q out Φ a0 w0 w0.heap.size) 0 ops.toList)
    (last : ∀ (f : Tmp → Value) (w : World), Kept w0 w → (∀ d, out.contains d = true → (dsts ops).contains d = true → Since Φ d (f d) w) → Q .normal (fill a0 (dsts ops) f) w) :
    (Code.region id ops true).wp P Q a0 w0 := wp_region_relyB w0.heap.size (Nat.le_refl _) hm Φ n hn hok out steps last
end
end Go.Proofs.Ytndfkpajojbfkaa.Wd
