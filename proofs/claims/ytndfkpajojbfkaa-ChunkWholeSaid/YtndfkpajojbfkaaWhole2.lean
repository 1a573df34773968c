/-
  For 'ChunkWhole': the state behind a block that is laid; what Fill hands back.
-/
import Derived.Test.YtndfkpajojbfkaaWhole1
import Derived.Test.YtndfkpajojbfkaaRelyE
namespace Go.Proofs.Ytndfkpajojbfkaa.Ck
open Go.RowKit Wd Is Sp Fl Ga By
set_option linter.unusedVariables false

theorem own_low {w w' : World} {base n s g : Nat} {e : TypeId} {v : Value} {xs : List Value} (h : w.ownsRow base e s v n xs) (hlt : ∀ b, v.ownBlock = some b → b < g) (hb : Below g w w') : w'.ownsRow base e s v n xs := by
  refine ⟨h.1, ?_⟩
  rcases h.2 with hn | ⟨b, cap, cur, rfl, hbb, hgg, rest⟩
  · exact .inl hn
  · exact .inr ⟨b, cap, cur, rfl, hbb, (hb.block b (hlt b rfl)).trans hgg, rest⟩
section
variable {w0 wr w4 w5 w9 : World} {b8 g n c k : Nat} {A : Option Addr} {C L : List UInt8} {B : Bls}
theorem own_ne (h : WS w0 wr b8 A n c C B) (hg : g = wr.heap.size) : (∀ b, (Value.slice A n c).ownBlock = some b → b < g) ∧ (Value.slice A n c).ownBlock ≠ some g := by
  have h1 : ∀ b, (Value.slice A n c).ownBlock = some b → b < g := fun b hb => by rw [hg]; exact (own_in h.own b hb).2
  exact ⟨h1, fun e => Nat.lt_irrefl _ (h1 _ e)⟩
/-- behind the store, ahead of the copy -/
theorem WS.pre (h : WS w0 wr b8 A n c C B) (hg : g = wr.heap.size) (hmb : Below g wr w4) (hw5 : w5 = w4.setCell ⟨b8, k, none⟩ (.slice (some ⟨g, 0, none⟩) 128 128)) (hz : w4.ownsRow g 5 1 (.slice (some ⟨g, 0, none⟩) 128 128) 128 ((List.replicate 128 (0 : UInt8)).map bv)) :
    Sl w5 g 1 A n (C.map bv) ∧ w5.ownsRow g 5 1 (.slice (some ⟨g, 0, none⟩) 128 128) 128 ((List.replicate 128 (0 : UInt8)).map bv) ∧ g ≤ w5.heap.size := by
  obtain ⟨h1, h2⟩ := own_ne h hg
  have ho : Only b8 w4 w5 := by rw [hw5]; exact Only.setCell b8 k w4 _
  have hlt := h.blk.lt
  refine ⟨own_sl (own_other (own_low h.own h1 hmb) ho h.blk.own8) h1, own_other hz ho ?_, ?_⟩
  · intro e
    have : g = b8 := by simpa [Value.ownBlock] using e
    omega
  · have := hmb.size
    have := ho.size
    omega
theorem WS.lay (h : WS w0 wr b8 A n c C B) (hg : g = wr.heap.size) (h08 : w0.heap.size ≤ b8) (hmb : Below g wr w4) (hw5 : w5 = w4.setCell ⟨b8, k, none⟩ (.slice (some ⟨g, 0, none⟩) 128 128)) (hck5 : w5.cell? ⟨b8, k, none⟩ = some (.slice (some ⟨g, 0, none⟩) 128 128))
    (hk9 : Below g w5 w9) (ho9 : w9.ownsRow g 5 1 (.slice (some ⟨g, 0, none⟩) 128 128) 128 (L.map bv)) (hL : L.length = 128) (hk : k < 32) : WS w0 w9 b8 A n c C (fun i => if i = k then L else B i) := by
  obtain ⟨h1, h2⟩ := own_ne h hg
  have ho : Only b8 w4 w5 := by rw [hw5]; exact Only.setCell b8 k w4 _
  have hlt : b8 < g := by rw [hg]; exact h.blk.lt
  have hw0 : w0.heap.size ≤ g := by omega
  refine ⟨own_low (own_other (own_low h.own h1 hmb) ho h.blk.own8) h1 hk9, h.blk.lay k hL ?_ (fun j hj hne => ?_) (fun i hi => ?_) (fun i => ?_) hk ?_ (Sl.own ho9) (by omega) h2, ?_⟩
  · have := hmb.size
    have := ho.size
    have := hk9.size
    omega
  · rw [hk9.block j (by omega), ho.block j hne, hmb.block j (by omega)]
  · have e1 : w9.cell? ⟨b8, i, none⟩ = w5.cell? ⟨b8, i, none⟩ := World.cell?_of_block (w := w5) (hk9.block b8 hlt)
    have e2 : w4.cell? ⟨b8, i, none⟩ = wr.cell? ⟨b8, i, none⟩ := World.cell?_of_block (w := wr) (hmb.block b8 hlt)
    rw [e1, hw5, World.cell?_setCell_other _ _ _ _ (by simp <;> omega), e2]
  · have e1 : w9.frozen? ⟨b8, i, none⟩ = w5.frozen? ⟨b8, i, none⟩ := World.frozen?_of_block (w := w5) (hk9.block b8 hlt)
    have e2 : w4.frozen? ⟨b8, i, none⟩ = wr.frozen? ⟨b8, i, none⟩ := World.frozen?_of_block (w := wr) (hmb.block b8 hlt)
    rw [e1, hw5, World.frozen?_setCell, e2]
    exact h.blk.fz i
  · have e1 : w9.cell? ⟨b8, k, none⟩ = w5.cell? ⟨b8, k, none⟩ := World.cell?_of_block (w := w5) (hk9.block b8 hlt)
    rw [e1]
    exact hck5
  · have k4 := h.bel.trans (hmb.mono hw0)
    have k5 := ho.below k4 h08
    exact k5.trans (hk9.mono hw0)
end
/-- what Fill hands back -/
def FX (G : Nat) (R : List UInt8) (u : Value) (w : World) : Prop := ∃ g, u = .tuple #[.slice (some ⟨g, 0, none⟩) 128 128, .bool true] ∧ G ≤ g ∧ Sl w w.heap.size 1 (some ⟨g, 0, none⟩) 128 (R.map bv)
def FY (G : Nat) (R : List UInt8) (u : Value) (w : World) : Prop := ∃ g, u = .slice (some ⟨g, 0, none⟩) 128 128 ∧ G ≤ g ∧ Sl w w.heap.size 1 (some ⟨g, 0, none⟩) 128 (R.map bv)
theorem FX.kept {G : Nat} {R : List UInt8} {u : Value} {w w' : World} (h : FX G R u w) (hk : Kept w w') : FX G R u w' := by obtain ⟨g, e, hg, hs⟩ := h; exact ⟨g, e, hg, hs.on (Nat.le_refl _) hk⟩
theorem FY.kept {G : Nat} {R : List UInt8} {u : Value} {w w' : World} (h : FY G R u w) (hk : Kept w w') : FY G R u w' := by obtain ⟨g, e, hg, hs⟩ := h; exact ⟨g, e, hg, hs.on (Nat.le_refl _) hk⟩
def lenV : Value → Nat
  | .slice _ n _ => n
  | _ => 0
theorem st_zero (c : List UInt8) : stB c 0 = fun _ => [] := by
  funext i
  unfold stB
  rw [if_neg (by omega)]
theorem fill_any {Ao Ad : Option Addr} {old d : List UInt8} {co cd X n a : Nat} {w : World} (ho : Sl w w.heap.size 1 Ao old.length (old.map bv)) (hd : Sl w w.heap.size 1 Ad d.length (d.map bv)) (hm : May (n : Int) (a : Int) (d.length : Int)) (hol : old.length = 0 ∨ old.length = 128) (hb : hasB [strP (a : Int) (d.length : Int)] (X : Int) = true) :
    Calls Try.prog 19 #[.slice Ao old.length co, .int .i64 (X : Int), .int .i64 (n : Int), .int .i64 (a : Int), .slice Ad d.length cd] w fun e w' => ∃ g, e = .returned (.tuple #[.slice (some ⟨g, 0, none⟩) 128 128, .bool true]) ∧ w.heap.size ≤ g ∧ Sl w' w'.heap.size 1 (some ⟨g, 0, none⟩) 128 ((fillL old d (128 * X) n a).map bv) ∧ Below w.heap.size w w' := by
  refine (fill_yes Ao Ad old d co cd (X : Int) (n : Int) (a : Int) w ho hd hm hol hb).mono ?_
  rintro e w' ⟨g, rfl, h1, h2⟩
  have e1 : ((X : Int) * 128).toNat = 128 * X := by omega
  rw [e1, Int.toNat_natCast, Int.toNat_natCast] at h1
  exact ⟨g, rfl, own_ge h1, Sl.own h1, h2⟩
end Go.Proofs.Ytndfkpajojbfkaa.Ck
