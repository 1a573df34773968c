/-
  For the walk of 'AllocKeeps': the variables, and the rows that are its own.
-/
import Derived.Test.YtgfhepfikphliaaKeep5
import Derived.Test.YtgfhepfikphliaaPlace
import Derived.Test.YtgfhepfikphliaaRowRely
namespace Go.Proofs.Ytgfhepfikphliaa.Al
open Go.RowKit Wd In
set_option linter.unusedVariables false

structure K2 (w0 w : World) (b3 b7 : Nat) (old now : List Int) : Prop where
  r3 : IRow w b3 old
  r7 : IRow w b7 now
  bel : Below w0.heap.size w0 w
  o0 : w0.heap.size ≤ b3
  o1 : b3 < b7
  o2 : b7 < w.heap.size
section
variable {w0 w w' : World} {b3 b7 b : Nat} {old now now' : List Int}
theorem K2.start {w1 w2 : World} (r1 : IRow w1 w.heap.size old) (k1 : Below w.heap.size w w1) (l1 : w.heap.size < w1.heap.size) (r2 : IRow w2 w1.heap.size now) (k2 : Below w1.heap.size w1 w2) (l2 : w1.heap.size < w2.heap.size) :
    K2 w w2 w.heap.size w1.heap.size old now := ⟨r1.below k2 l1, r2, k1.trans (k2.mono (Nat.le_of_lt l1)), Nat.le_refl _, l1, l2⟩
theorem K2.on7 (h : K2 w0 w b3 b7 old now) (hr : IRow w' b7 now') (ho : Only b7 w w') : K2 w0 w' b3 b7 old now' :=
  ⟨h.r3.only ho (Nat.ne_of_lt h.o1), hr, ho.below h.bel (Nat.le_trans h.o0 (Nat.le_of_lt h.o1)), h.o0, h.o1, Nat.lt_of_lt_of_le h.o2 ho.size⟩
theorem K2.only (h : K2 w0 w b3 b7 old now) (ho : Only b w w') (hb : b7 < b) : K2 w0 w' b3 b7 old now := by
  have := h.o0; have := h.o1
  exact ⟨h.r3.only ho (by omega), h.r7.only ho (by omega), ho.below h.bel (by omega), h.o0, h.o1, Nat.lt_of_lt_of_le h.o2 ho.size⟩
theorem K2.below {B : Nat} (h : K2 w0 w b3 b7 old now) (hb : Below B w w') (hB : b7 < B) : K2 w0 w' b3 b7 old now := by
  have := h.o0; have := h.o1
  exact ⟨h.r3.below hb (by omega), h.r7.below hb hB, h.bel.trans (hb.mono (by omega)), h.o0, h.o1, Nat.lt_of_lt_of_le h.o2 hb.size⟩
end
/-- with the answer's variable, and those that are gone -/
structure K3 (w0 w : World) (b3 b7 b13 : Nat) (old now X : List Int) (A : Option Addr) (G : List Int) : Prop where
  k2 : K2 w0 w b3 b7 old now
  r13 : IRow w b13 X
  o3 : b7 < b13
  o4 : b13 < w.heap.size
  g : Sl w w.heap.size 1 A G.length (G.map (Value.int .i64))
theorem K3.on {w0 w w' : World} {b3 b7 b13 : Nat} {old now X : List Int} {A : Option Addr} {G : List Int} (h : K3 w0 w b3 b7 b13 old now X A G) (hb : Below w.heap.size w w') : K3 w0 w' b3 b7 b13 old now X A G := by
  have := h.o3; have := h.o4
  exact ⟨h.k2.below hb (by omega), h.r13.below hb h.o4, h.o3, Nat.lt_of_lt_of_le h.o4 hb.size, h.g.on (Nat.le_refl _) hb⟩
/-- a row that the call has laid for itself -/
abbrev Own (w : World) (B : Nat) (v : Value) (l : List Int) : Prop := w.ownsRow B 3 1 v l.length (l.map (Value.int .i64))
def ApartV (u v : Value) : Prop := u.ownBlock = none ∨ u.ownBlock ≠ v.ownBlock
theorem own_ltV {w : World} {base n s : Nat} {e : TypeId} {v : Value} {xs : List Value} (h : w.ownsRow base e s v n xs) : ∀ g, v.ownBlock = some g → base ≤ g ∧ g < w.heap.size := by
  rcases h.2 with ⟨rfl, _⟩ | ⟨g, cap, cur, rfl, hb, hg, _⟩
  · intro g h; cases h
  · intro g' h
    have : g = g' := by simpa [Value.ownBlock] using h
    subst this
    exact ⟨hb, (Array.getElem?_eq_some_iff.1 hg).1⟩
theorem ApartV.sym {u v : Value} (h : ApartV u v) : ApartV v u := by
  rcases h with h | h
  · cases hv : v.ownBlock with
    | none => exact .inl hv
    | some g => exact .inr (by rw [hv, h]; simp)
  · exact .inr fun e => h e.symm
theorem ApartV.step {w : World} {base n s : Nat} {e : TypeId} {u u' v : Value} {xs : List Value} (h : ApartV u v) (hv : w.ownsRow base e s v n xs) (hat : u'.ownBlock = u.ownBlock ∨ u'.ownBlock = some w.heap.size) : ApartV u' v := by
  rcases hat with ha | ha
  · rcases h with h | h
    · exact .inl (ha.trans h)
    · exact .inr (by rw [ha]; exact h)
  · refine .inr fun e => ?_
    have := (own_ltV hv _ (e.symm.trans ha)).2
    omega
theorem own_belV {w w' : World} {B n s : Nat} {e : TypeId} {v : Value} {xs : List Value} (h : w.ownsRow B e s v n xs) (hk : Below w.heap.size w w') : w'.ownsRow B e s v n xs := by
  refine ⟨h.1, ?_⟩
  rcases h.2 with hn | ⟨g, cap, cur, rfl, hb, hgg, rest⟩
  · exact .inl hn
  · exact .inr ⟨g, cap, cur, rfl, hb, (Below.block hk g (Array.getElem?_eq_some_iff.1 hgg).1).trans hgg, rest⟩
theorem pk_yes (old : List Int) {wh : Nat → Bool} {k : Nat} (h : wh k = true) : (pkS old wh (k + 1)).1 = (pkS old wh k).1 ++ [(k : Int)] ∧ (pkS old wh (k + 1)).2.1 = (pkS old wh k).2.1 ++ [tkn old wh k] ∧ (pkS old wh (k + 1)).2.2 = tkn old wh k + 1 := by
  rw [pkS, if_pos h]
  exact ⟨rfl, rfl, rfl⟩
theorem pk_no (old : List Int) {wh : Nat → Bool} {k : Nat} (h : wh k = false) : pkS old wh (k + 1) = pkS old wh k := by
  rw [pkS, if_neg (by rw [h]; decide)]
end Go.Proofs.Ytgfhepfikphliaa.Al
