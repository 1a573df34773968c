/-
  An inode's variable that is made, and written, within a region that draws its order.
-/
import Derived.Test.YtbhpkknimjmpjaaRowRely
import Derived.Test.YtbhpkknimjmpjaaRelyG
import Derived.Laws.Rows
namespace Go.Proofs.Ytbhpkknimjmpjaa.In
open Go.RowKit Wd
set_option linter.unusedVariables false

/-- a variable of the inode's type, which holds the numbers xs -/
def IV (w : World) (b : Nat) (xs : List Int) : Prop := IRow w b xs ∧ ∃ cs, w.heap[b]? = some (.cells cs 26 (0, 0))
theorem IV.lt {w : World} {b : Nat} {xs : List Int} (h : IV w b xs) : b < w.heap.size := by
  obtain ⟨cs, h2⟩ := h.2
  exact (Array.getElem?_eq_some_iff.1 h2).1
theorem IV.kept {w w' : World} {b : Nat} {xs : List Int} (h : IV w b xs) (hk : Kept w w') : IV w' b xs := by
  obtain ⟨cs, h2⟩ := h.2
  exact ⟨h.1.kept hk h.lt, cs, (Below.block hk b h.lt).trans h2⟩
theorem IV.only {w w' : World} {b b' : Nat} {xs : List Int} (h : IV w b xs) (ho : Only b' w w') (hne : b ≠ b') : IV w' b xs := by
  obtain ⟨cs, h2⟩ := h.2
  exact ⟨h.1.only ho hne, cs, (ho.block b hne).trans h2⟩
theorem heap_setCells {t : TypeId} (b : Nat) : ∀ (vs : List Value) (o : Nat) (w : World), (∃ cs, w.heap[b]? = some (.cells cs t (0, 0))) → ∃ cs, (w.setCells b o vs).heap[b]? = some (.cells cs t (0, 0))
  | [], _, w, h => h
  | v :: r, o, w, h => by
    obtain ⟨cs, h⟩ := h
    exact heap_setCells b r (o + 1) _ ⟨_, heap_setCell_same w b o cs t v h⟩
/-- what lies in rows of another type is another block -/
theorem own_other {w : World} {base n b : Nat} {e : TypeId} {v : Value} {xs : List Value} {s : Nat} (h : w.ownsRow base e s v n xs) (hb : ∃ cs, w.heap[b]? = some (.cells cs 26 (0, 0))) (he : e ≠ 26) : v.ownBlock ≠ some b := by
  obtain ⟨cs, hb⟩ := hb
  rcases h.2 with ⟨rfl, _⟩ | ⟨g, cap, cur, rfl, _, hg, _⟩
  · intro h; cases h
  · intro h
    have : g = b := by
      simp [Value.ownBlock] at h
      exact h
    subst this
    rw [hb] at hg
    injection hg with hg
    injection hg with _ hg
    exact he hg.symm
section
variable {Q : Exit → Act → World → Prop} {o : Oper} {a : Act} {w : World} {K : Act → World → Prop}
theorem wp_alloc_ino (ho : o.op = .alloc 26) (hK : ∀ w', IV w' w.heap.size zIno → Below w.heap.size w w' → K (a.put o.dst (.pointer (some ⟨w.heap.size, 0, none⟩))) w') : Oper.wp Try.prog o a w K Q := by
  have hr : (execOp a.eval o).run Try.prog w = .ok (.value (.pointer (some ⟨w.heap.size, 0, none⟩))) (w.alloc (.cells (ints zIno) 26)) := by
    have h := zeroInoI
    clear hK
    unfold execOp
    generalize a.eval = ρ at *
    cases hi : Try.prog.info? 26 with
    | none => rw [hi] at h; cases h
    | some i =>
      rw [hi] at h
      have hz : i.zero = some (.agg (ints zIno)) := by simpa using h
      simp [ho, Instr.alloc, zeroValue, typeInfo, hi, hz, newVar, newRow, Value.cells]
  unfold Oper.wp
  rw [hr]
  exact hK _ ⟨IRow.new w zIno _, _, heap_alloc_new w _⟩ ((Below.refl _ _).alloc (Nat.le_refl _) _)
theorem wp_store_ino {x y : Operand} (ho : o.op = .store 26 x y) {b : Nat} {xs ys : List Int} (h : IV w b xs) (hl : xs.length = 37) (hly : ys.length = 37)
    (hx : a.eval x = .pointer (some ⟨b, 0, none⟩)) (hy : a.eval y = .agg (ints ys))
    (hK : ∀ w', IV w' b ys → Only b w w' → K (a.put o.dst undef) w') : Oper.wp Try.prog o a w K Q := by
  exact wp_store_mid 26 x y ho b 0 (ints ys) hx hy (h.1.there _ (by rw [ints_size]; omega)) (by rw [ints_size, hly]; exact inoInfo) (ints_one ys) (hK _ ⟨h.1.put (by omega), heap_setCells b _ 0 w h.2⟩ (Only.setCells b _ 0 w))
end
/-! ### the companion: a variable in slot s, made by operation ia, written by operation is -/
def PV (s : Tmp) (ia is : Nat) (B : Nat) (x : List Int) (L : Array Bool) (a : Act) (w : World) : Prop :=
  L.getD ia false = true → ∃ b, a.tmps.getD s undef = .pointer (some ⟨b, 0, none⟩) ∧ B ≤ b ∧ IV w b (if L.getD is false then x else zIno)
theorem PV.keep {s : Tmp} {ia is B : Nat} {x : List Int} {L : Array Bool} {a : Act} {w w' : World} {i : Nat} {d : Option Tmp} {v : Value} (h : PV s ia is B x L a w) (hk : Kept w w') (h1 : ¬ i = ia) (h2 : ¬ i = is) (hd : d ≠ some s) : PV s ia is B x (L.setIfInBounds i true) (a.put d v) w' := by
  intro hl
  rw [set_other h1] at hl
  obtain ⟨b, e, hb, hv⟩ := h hl
  refine ⟨b, ?_, hb, ?_⟩
  · rw [put_other hd]; exact e
  · rw [set_other h2]; exact hv.kept hk
theorem PV.start {s : Tmp} {ia is B : Nat} {x : List Int} {a : Act} {w : World} (n : Nat) : PV s ia is B x (Array.replicate n false) a w := by
  intro h
  rw [Array.getD_eq_getD_getElem?, Array.getElem?_replicate] at h
  split at h <;> cases h
end Go.Proofs.Ytbhpkknimjmpjaa.In
