/-
  Plain law for 'AllocKeeps', third part: the inode that Next makes.
-/
import Derived.Test.YtgfhepfikphliaaKeep2
namespace Go.Proofs.Ytgfhepfikphliaa.Al
open Go.RowKit Wd In
set_option linter.unusedVariables false

/-- the block that round j takes -/
def tkn (old : List Int) (wh : Nat → Bool) (j : Nat) : Int := nx old (pkS old wh j).2.2
/-- the inode behind k pieces -/
def XS (old X : List Int) (wh : Nat → Bool) : Nat → List Int
  | 0 => X
  | k + 1 => if wh k then (XS old X wh k).set (5 + k) (tkn old wh k) else XS old X wh k
theorem XS_len (old X : List Int) (wh : Nat → Bool) : ∀ k, (XS old X wh k).length = X.length
  | 0 => rfl
  | k + 1 => by
    unfold XS
    split
    · rw [List.length_set, XS_len old X wh k]
    · exact XS_len old X wh k
theorem XS_goP (old X : List Int) (wh : Nat → Bool) (N : Int) (k : Nat) (hN : (k : Int) ≤ N) (h32 : k ≤ 32) : goP N (-1) (pkS old wh k).1 (pkS old wh k).2.1 X = some (XS old X wh k) := by
  induction k with
  | zero => rfl
  | succ k ih =>
    have ih := ih (by omega) (by omega)
    unfold pkS XS
    split
    · rw [goP_snoc (pk_len old wh k).1 (fun x hx => (pk_ks old wh k x hx).2) (by omega) (by omega) (by omega), ih]
      rfl
    · exact ih
theorem XS_at (old X : List Int) (wh : Nat → Bool) (hX : X.length = 37) : ∀ (k : Nat) (j : Nat), k ≤ 32 → j < 32 → (XS old X wh k).getD (5 + j) 0 = if j < k ∧ wh j = true then tkn old wh j else X.getD (5 + j) 0
  | 0, j, _, _ => by rw [if_neg (by omega)]; rfl
  | k + 1, j, hk, hj => by
    have ih := XS_at old X wh hX k j (by omega) hj
    unfold XS
    by_cases hw : wh k = true
    · rw [if_pos hw]
      by_cases he : j = k
      · subst he
        rw [if_pos ⟨by omega, hw⟩, List.getD_eq_getElem?_getD, List.getElem?_set_self (by rw [XS_len, hX]; omega)]
        rfl
      · rw [List.getD_eq_getElem?_getD, List.getElem?_set_ne (by omega), ← List.getD_eq_getElem?_getD, ih]
        by_cases c : j < k ∧ wh j = true
        · rw [if_pos c, if_pos ⟨by omega, c.2⟩]
        · rw [if_neg c, if_neg (fun h => c ⟨by omega, h.2⟩)]
    · rw [if_neg hw, ih]
      by_cases c : j < k ∧ wh j = true
      · rw [if_pos c, if_pos ⟨by omega, c.2⟩]
      · rw [if_neg c, if_neg (fun h => by
          by_cases he : j = k
          · subst he; exact hw h.2
          · exact c ⟨by omega, h.2⟩)]
end Go.Proofs.Ytgfhepfikphliaa.Al
