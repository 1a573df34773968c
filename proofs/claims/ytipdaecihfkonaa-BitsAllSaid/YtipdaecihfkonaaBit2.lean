/-
  bits: New; the law's awake; what a bit is behind Set.
-/
import Derived.Test.YtipdaecihfkonaaBit1
namespace Go.Proofs.Ytipdaecihfkonaa.Bt
open Go.RowKit Wd By Sp Fl Ga
set_option linter.unusedVariables false

theorem mask_bit : ∀ j, j < 8 → ∀ i, i < 8 → (255 - 2 ^ j).testBit i = !decide (i = j) := by decide
theorem two_bit : ∀ j, j < 8 → ∀ i, i < 8 → (2 ^ j).testBit i = decide (i = j) := by decide
theorem setB_len (L : List UInt8) (n : Nat) (u : Bool) : (setB L n u).length = L.length := by unfold setB; rw [List.length_set]
theorem byte_nat {y : Nat} (hy : y < 256) : (UInt8.ofNat y).toNat = y := by rw [UInt8.toNat_ofNat']; exact Nat.mod_eq_of_lt hy
/-- behind Set the bit is what was set, all others are as they were -/
theorem bit_set {L : List UInt8} (hl : L.length = 128) {n : Nat} (hn : n < 1024) (u : Bool) (m : Nat) : bitN (setB L n u) m = if m = n then u else bitN L m := by
  unfold bitN setB
  by_cases hb : m / 8 = n / 8
  · rw [hb, List.getD_eq_getElem?_getD, List.getElem?_set_self (by omega)]
    simp only [Option.getD_some]
    have hx : (L.getD (n / 8) 0).toNat < 256 := UInt8.toNat_lt _
    generalize (L.getD (n / 8) 0).toNat = x at *
    have hj : n % 8 < 8 := by omega
    have hi : m % 8 < 8 := by omega
    have hy : x &&& (255 - 2 ^ (n % 8)) < 256 := Nat.lt_of_le_of_lt Nat.and_le_left hx
    have hz : (x &&& (255 - 2 ^ (n % 8))) ||| 2 ^ (n % 8) < 256 := Nat.or_lt_two_pow (n := 8) hy (pow_lt hj).1
    have he : (m = n) ↔ m % 8 = n % 8 := by omega
    cases u
    · rw [if_neg (by decide), byte_nat hy, Nat.testBit_and, mask_bit _ hj _ hi]
      by_cases h : m = n
      · rw [if_pos h]
        simp [he.1 h]
      · rw [if_neg h]
        have : ¬ m % 8 = n % 8 := fun e => h (he.2 e)
        simp [this]
    · rw [if_pos rfl, byte_nat hz, Nat.testBit_or, Nat.testBit_and, mask_bit _ hj _ hi, two_bit _ hj _ hi]
      by_cases h : m = n
      · rw [if_pos h]
        simp [he.1 h]
      · rw [if_neg h]
        have : ¬ m % 8 = n % 8 := fun e => h (he.2 e)
        simp [this]
  · have hne : ¬ m = n := fun e => hb (by rw [e])
    rw [if_neg hne, List.getD_eq_getElem?_getD, List.getElem?_set_ne (fun e => hb e.symm), List.getD_eq_getElem?_getD]
def newU (blocks : Int) (n : Nat) : Bool := decide (n < 74) || decide (blocks ≤ (n : Int))
def newS (blocks : Int) : Nat → List UInt8
  | 0 => List.replicate 128 0
  | k + 1 => setB (newS blocks k) k (newU blocks k)
theorem newS_len (blocks : Int) : ∀ k, (newS blocks k).length = 128
  | 0 => by simp [newS]
  | k + 1 => by unfold newS; rw [setB_len, newS_len blocks k]
theorem newS_bit (blocks : Int) (m : Nat) : ∀ k, k ≤ 1024 → bitN (newS blocks k) m = if m < k then newU blocks m else false
  | 0, _ => by
    unfold newS bitN
    rw [if_neg (by omega)]
    by_cases h : m / 8 < 128
    · rw [List.getD_eq_getElem?_getD, List.getElem?_replicate, if_pos h]
      simp
    · rw [List.getD_eq_getElem?_getD, List.getElem?_replicate, if_neg h]
      simp
  | k + 1, hk => by
    have ih := newS_bit blocks m k (by omega)
    unfold newS
    rw [bit_set (newS_len blocks k) (by omega), ih]
    by_cases h : m = k
    · subst h
      rw [if_pos rfl, if_pos (by omega)]
    · rw [if_neg h]
      by_cases h2 : m < k
      · rw [if_pos h2, if_pos (by omega)]
      · rw [if_neg h2, if_neg (by omega)]
def newL (blocks : Int) : List UInt8 := newS blocks 1024
theorem newL_len (blocks : Int) : (newL blocks).length = 128 := newS_len blocks 1024
theorem newL_bit (blocks : Int) {m : Nat} (h : m < 1024) : bitN (newL blocks) m = newU blocks m := by
  unfold newL
  rw [newS_bit blocks m 1024 (by omega), if_pos h]
def OwnR (w : World) (l : List UInt8) (e : Ending) (w' : World) : Prop :=
  ∃ g, e = .returned (.slice (some ⟨g, 0, none⟩) 128 128) ∧ w'.ownsRow w.heap.size 5 1 (.slice (some ⟨g, 0, none⟩) 128 128) 128 (l.map bv) ∧ Below w.heap.size w w'
/-! ### awake -/
theorem new_used (blocks : Int) {n : Nat} (h : n < 1024) : usedB (newL blocks) (n : Int) = newU blocks n := by
  unfold usedB
  rw [newL_len]
  have e1 : decide ((n : Int) < 0) = false := by simp
  have e2 : decide (1024 ≤ (n : Int)) = false := by simp; omega
  rw [e1, e2, Int.toNat_natCast, newL_bit blocks h]
  simp
theorem new_fr (blocks : Int) {n : Nat} (h : n < 1024) : fr (newL blocks) blocks n = (decide (74 ≤ n) && decide ((n : Int) < blocks)) := by
  unfold fr
  rw [new_used blocks h]
  unfold newU
  rw [Bool.eq_iff_iff]
  simp <;> omega
/-- how many of the first k are free -/
theorem new_frees (blocks : Int) : ∀ k, k ≤ 1024 → (frees (newL blocks) blocks k).length = min k blocks.toNat - 74
  | 0, _ => by simp [frees]
  | k + 1, hk => by
    have ih := new_frees blocks k (by omega)
    rw [frees_succ, new_fr blocks (by omega)]
    by_cases h1 : 74 ≤ k
    · by_cases h2 : (k : Int) < blocks
      · simp [h1, h2, ih]; omega
      · simp [h2, ih]; omega
    · simp [h1, ih]; omega
theorem spans_one : (spans (newL 200) 200).length = 1 := by
  unfold spans
  rw [show top 200 + 1 = 201 by decide]
  have h1 : ∀ k, k ≤ 74 → spS (newL 200) 200 k = (k, []) := by
    intro k
    induction k with
    | zero => intro _; rfl
    | succ k ih =>
      intro hk
      rw [sp_succ, ih (by omega), new_fr 200 (by omega)]
      have : ¬ 74 ≤ k := by omega
      simp [this]
  have h2 : ∀ k, k ≤ 126 → spS (newL 200) 200 (74 + k) = (74, []) := by
    intro k
    induction k with
    | zero => intro _; exact h1 74 (Nat.le_refl _)
    | succ k ih =>
      intro hk
      rw [show 74 + (k + 1) = 74 + k + 1 by omega, sp_succ, ih (by omega), new_fr 200 (by omega)]
      have e1 : 74 ≤ 74 + k := by omega
      have e2 : ((74 + k : Nat) : Int) < 200 := by omega
      rw [decide_eq_true e1, decide_eq_true e2]
      rfl
  rw [sp_succ, h2 126 (by omega), new_fr 200 (by omega)]
  rfl
end Go.Proofs.Ytipdaecihfkonaa.Bt
