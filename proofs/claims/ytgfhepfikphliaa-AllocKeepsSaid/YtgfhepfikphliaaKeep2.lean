/-
  Plain law for 'AllocKeeps', second part: the pieces and the blocks that are taken.
-/
import Derived.Test.YtgfhepfikphliaaKeep1
namespace Go.Proofs.Ytgfhepfikphliaa.Al
open Go.RowKit Wd In
set_option linter.unusedVariables false

/-- behind k rounds: pieces, blocks taken, the next one -/
def pkS (old : List Int) (wh : Nat → Bool) : Nat → List Int × List Int × Int
  | 0 => ([], [], 74)
  | k + 1 => if wh k then ((pkS old wh k).1 ++ [(k : Int)], (pkS old wh k).2.1 ++ [nx old (pkS old wh k).2.2], nx old (pkS old wh k).2.2 + 1) else pkS old wh k
theorem pk_len (old : List Int) (wh : Nat → Bool) : ∀ k, (pkS old wh k).1.length = (pkS old wh k).2.1.length ∧ (pkS old wh k).1.length ≤ k
  | 0 => ⟨rfl, Nat.le_refl _⟩
  | k + 1 => by
    obtain ⟨h1, h2⟩ := pk_len old wh k
    unfold pkS
    split
    · simp only [List.length_append, List.length_cons, List.length_nil]
      exact ⟨by omega, by omega⟩
    · exact ⟨h1, by omega⟩
theorem pk_ks (old : List Int) (wh : Nat → Bool) : ∀ k, ∀ x ∈ (pkS old wh k).1, 0 ≤ x ∧ x < (k : Int)
  | 0, x, h => by simp [pkS] at h
  | k + 1, x, h => by
    unfold pkS at h
    split at h
    · rcases List.mem_append.1 h with h | h
      · have := pk_ks old wh k x h
        omega
      · simp at h
        omega
    · have := pk_ks old wh k x h
      omega
theorem pk_ts {old : List Int} (hl : old.length = 37) (wh : Nat → Bool) : ∀ k, 74 ≤ (pkS old wh k).2.2 ∧ (∀ t ∈ (pkS old wh k).2.1, 74 ≤ t ∧ t < (pkS old wh k).2.2 ∧ hasP old t = false) ∧ (∀ b, 74 ≤ b → b < (pkS old wh k).2.2 → b ∈ (pkS old wh k).2.1 ∨ hasP old b = true) ∧ (pkS old wh k).2.1.Pairwise (· < ·)
  | 0 => ⟨by simp [pkS], fun t h => by simp [pkS] at h, fun b h1 h2 => absurd h2 (by simp [pkS]; omega), List.Pairwise.nil⟩
  | k + 1 => by
    obtain ⟨h1, h2, h3, h4⟩ := pk_ts hl wh k
    unfold pkS
    split
    · obtain ⟨q1, q2, q3, q4⟩ := nx_spec hl (pkS old wh k).2.2
      refine ⟨by simp only; omega, fun t ht => ?_, fun b hb hb2 => ?_, ?_⟩
      · simp only at ht ⊢
        rcases List.mem_append.1 ht with ht | ht
        · obtain ⟨a1, a2, a3⟩ := h2 t ht
          exact ⟨a1, by omega, a3⟩
        · simp at ht
          subst ht
          exact ⟨by omega, by omega, q1⟩
      · simp only at hb2 ⊢
        by_cases c1 : b < (pkS old wh k).2.2
        · rcases h3 b hb c1 with h | h
          · exact .inl (List.mem_append.2 (.inl h))
          · exact .inr h
        · by_cases c2 : b = nx old (pkS old wh k).2.2
          · exact .inl (List.mem_append.2 (.inr (by simp [c2])))
          · exact .inr (q4 b (by omega) (by omega))
      · simp only
        rw [List.pairwise_append]
        refine ⟨h4, List.pairwise_singleton _ _, fun a ha b hb => ?_⟩
        simp at hb
        have := (h2 a ha).2.1
        omega
    · exact ⟨h1, h2, h3, h4⟩
theorem pk_next {old : List Int} (hl : old.length = 37) (wh : Nat → Bool) (k : Nat) : (pkS old wh k).2.2 ≤ 74 + k + 32 := by
  obtain ⟨h1, h2, h3, h4⟩ := pk_ts hl wh k
  obtain ⟨e1, e2⟩ := pk_len old wh k
  have hle := nodup_le ((List.range ((pkS old wh k).2.2 - 74).toNat).map fun i : Nat => 74 + (i : Int)) (by
    rw [List.nodup_iff_pairwise_ne, List.pairwise_map]
    exact (List.pairwise_lt_range (n := _)).imp fun h => by omega) ((pkS old wh k).2.1 ++ old.drop 5) (fun x hx => by
    obtain ⟨i, hi, rfl⟩ := List.mem_map.1 hx
    rw [List.mem_range] at hi
    rcases h3 (74 + i) (by omega) (by omega) with h | h
    · exact List.mem_append.2 (.inl h)
    · exact List.mem_append.2 (.inr ((has_mem hl _).1 h)))
  rw [List.length_map, List.length_range, List.length_append, List.length_drop, hl] at hle
  omega
/-- what Next does with one piece more -/
theorem goP_snoc {N : Int} : ∀ {last : Int} {ps ts xs : List Int} {k t : Int}, ps.length = ts.length → (∀ x ∈ ps, x < k) → last < k → k < N → k < 32 →
    goP N last (ps ++ [k]) (ts ++ [t]) xs = (goP N last ps ts xs).map fun X => X.set (5 + k.toNat) t
  | last, [], [], xs, k, t, _, _, h1, h2, h3 => by
    simp only [List.nil_append, goP]
    rw [if_neg (by omega)]
    rfl
  | last, p :: ps, u :: ts, xs, k, t, hl, hp, h1, h2, h3 => by
    simp only [List.cons_append, goP]
    split
    · rfl
    · exact goP_snoc (by simpa using hl) (fun x hx => hp x (by simp [hx])) (hp p (by simp)) h2 h3
end Go.Proofs.Ytgfhepfikphliaa.Al
