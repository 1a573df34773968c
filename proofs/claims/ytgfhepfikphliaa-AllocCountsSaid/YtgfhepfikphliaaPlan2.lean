/-
  plain laws: how many are free behind what came and went.
-/
import Derived.Test.YtgfhepfikphliaaPlan1
namespace Go.Proofs.Ytgfhepfikphliaa.Pn
open Fl Sp Go.RowKit Wd By Bt
set_option linter.unusedVariables false
theorem fr_set {M : List UInt8} (hM : M.length = 128) (blocks : Int) {x : Nat} (hx : x < 1024) (u : Bool) {j : Nat} (hj : j < 1024) : fr (setB M x u) blocks j = if j = x then decide ((j : Int) < blocks) && !u else fr M blocks j := by
  unfold fr
  rw [used_bit (by rw [setB_len, hM]) hj, used_bit hM hj, bit_set hM hx u j]
  by_cases h : j = x <;> simp [h]
theorem frees_on {M : List UInt8} (hM : M.length = 128) (blocks : Int) {x : Nat} (hx : x < 1024) (hxb : (x : Int) < blocks) (hb : bitN M x = false) : ∀ k : Nat, k ≤ 1024 → (frees (setB M x true) blocks k).length + (if x < k then 1 else 0) = (frees M blocks k).length
  | 0, _ => by simp [frees]
  | k + 1, hk => by
    have ih := frees_on hM blocks hx hxb hb k (by omega)
    rw [frees_succ, frees_succ, fr_set hM blocks hx true (by omega : k < 1024)]
    by_cases h : k = x
    · subst h
      have hf : fr M blocks k = true := by unfold fr; rw [used_bit hM hx, hb]; simp [hxb]
      rw [if_pos rfl, hf, if_pos rfl]
      rw [if_neg (by omega)] at ih
      simp
      omega
    · rw [if_neg h]
      have e : (x < k + 1) = (x < k) := by apply propext; omega
      simp only [e]
      cases hf : fr M blocks k
      · simpa using ih
      · simp
        omega
theorem frees_off {M : List UInt8} (hM : M.length = 128) (blocks : Int) {x : Nat} (hx : x < 1024) (hxb : (x : Int) < blocks) (hb : bitN M x = true) : ∀ k : Nat, k ≤ 1024 → (frees (setB M x false) blocks k).length = (frees M blocks k).length + (if x < k then 1 else 0)
  | 0, _ => by simp [frees]
  | k + 1, hk => by
    have ih := frees_off hM blocks hx hxb hb k (by omega)
    rw [frees_succ, frees_succ, fr_set hM blocks hx false (by omega : k < 1024)]
    by_cases h : k = x
    · subst h
      have hf : fr M blocks k = false := by unfold fr; rw [used_bit hM hx, hb]; simp
      rw [if_pos rfl, hf]
      rw [if_neg (by omega)] at ih
      simp [hxb]
      omega
    · rw [if_neg h]
      have e : (x < k + 1) = (x < k) := by apply propext; omega
      simp only [e]
      cases hf : fr M blocks k
      · simpa using ih
      · simp
        omega
/-- all that are used, and unlike, may go -/
theorem gone_all (blocks : Int) : ∀ (G : List Int) (M : List UInt8), M.length = 128 → G.Nodup → (∀ g ∈ G, 74 ≤ g ∧ g < blocks ∧ g < 1024 ∧ bitN M g.toNat = true) →
    ∃ M', goneM blocks M G = some M' ∧ M'.length = 128 ∧ (frees M' blocks (top blocks)).length = (frees M blocks (top blocks)).length + G.length ∧ ∀ j, bitN M j = false → bitN M' j = false
  | [], M, hM, _, _ => ⟨M, rfl, hM, rfl, fun _ h => h⟩
  | x :: r, M, hM, hnd, h => by
    obtain ⟨h1, h2⟩ := List.nodup_cons.1 hnd
    obtain ⟨a, b, c, d⟩ := h x (by simp)
    have hx : x.toNat < 1024 := by omega
    obtain ⟨M', e1, e2, e3, e4⟩ := gone_all blocks r (setB M x.toNat false) (by rw [setB_len, hM]) h2 fun g hg => by
      obtain ⟨p, q, s, t⟩ := h g (by simp [hg])
      refine ⟨p, q, s, ?_⟩
      rw [bit_set hM hx, if_neg ?_]
      · exact t
      · intro e
        have : g = x := by omega
        exact h1 (this ▸ hg)
    refine ⟨M', ?_, e2, ?_, fun j hj => e4 j ?_⟩
    · unfold goneM
      rw [if_pos ⟨a, b, c, d⟩, e1]
    · have := frees_off hM blocks hx (by omega) d (top blocks) (top_le blocks)
      rw [if_pos (by unfold top; omega)] at this
      rw [e3, this, List.length_cons]
      omega
    · rw [bit_set hM hx]
      split
      · rfl
      · exact hj
theorem set_all (blocks : Int) : ∀ (T : List Int) (M : List UInt8), M.length = 128 → T.Nodup → (∀ x ∈ T, 0 ≤ x ∧ x < blocks ∧ x < 1024 ∧ bitN M x.toNat = false) →
    (frees (setT M T) blocks (top blocks)).length + T.length = (frees M blocks (top blocks)).length
  | [], M, _, _, _ => rfl
  | x :: r, M, hM, hnd, h => by
    obtain ⟨h1, h2⟩ := List.nodup_cons.1 hnd
    obtain ⟨a, b, c, d⟩ := h x (by simp)
    have hx : x.toNat < 1024 := by omega
    have ih := set_all blocks r (setB M x.toNat true) (by rw [setB_len, hM]) h2 fun g hg => by
      obtain ⟨p, q, s, t⟩ := h g (by simp [hg])
      refine ⟨p, q, s, ?_⟩
      rw [bit_set hM hx, if_neg ?_]
      · exact t
      · intro e
        have : g = x := by omega
        exact h1 (this ▸ hg)
    have := frees_on hM blocks hx (by omega) d (top blocks) (top_le blocks)
    rw [if_pos (by unfold top; omega)] at this
    show (frees (setT (setB M x.toNat true) r) blocks (top blocks)).length + (r.length + 1) = _
    omega
theorem takeL_nodup (L : List UInt8) (blocks n : Int) : (takeL L blocks n).Nodup := by rw [takeL_form]; exact (frees_nodup L blocks _).sublist (List.take_sublist _ _)
/-- the whole plan, when all that goes is used -/
theorem plan_all {M : List UInt8} (hM : M.length = 128) (blocks n : Int) (G : List Int) (hnd : G.Nodup) (h : ∀ g ∈ G, 74 ≤ g ∧ g < blocks ∧ g < 1024 ∧ bitN M g.toNat = true) (ht : takeB M blocks n = true) :
    ∃ N, planM M blocks n G = some (takeL M blocks n, N) ∧ N.length = 128 ∧ ((takeL M blocks n).length : Int) = n ∧ (((frees N blocks (top blocks)).length : Nat) : Int) = ((frees M blocks (top blocks)).length : Int) - n + (G.length : Int) ∧
      ∀ (i : Nat) (x : Int), (takeL M blocks n)[i]? = some x → 0 ≤ x ∧ x < 1024 ∧ bitN M x.toNat = false ∧ bitN N x.toNat = true := by
  obtain ⟨M', e1, e2, e3, e4⟩ := gone_all blocks G M hM hnd h
  have hfree : ∀ x ∈ takeL M blocks n, 0 ≤ x ∧ x < blocks ∧ x < 1024 ∧ bitN M x.toNat = false := by
    intro x hx
    obtain ⟨i, hi⟩ := List.getElem?_of_mem hx
    obtain ⟨a, b, c, d, _⟩ := take_gap M blocks n i x hi
    refine ⟨a, c, b, ?_⟩
    rw [← Int.toNat_of_nonneg a, used_bit hM (by omega)] at d
    simpa using d
  have hs := set_all blocks (takeL M blocks n) M' e2 (takeL_nodup M blocks n) fun x hx => by
    obtain ⟨a, b, c, d⟩ := hfree x hx
    exact ⟨a, b, c, e4 _ d⟩
  have hl := takeL_len M blocks n ht
  refine ⟨setT M' (takeL M blocks n), ?_, by rw [setT_len, e2], hl, ?_, fun i x hx => ?_⟩
  · unfold planM
    rw [if_pos ⟨ht, hM⟩, e1]
    rfl
  · omega
  · obtain ⟨a, b, c, d⟩ := hfree x (List.mem_of_getElem? hx)
    refine ⟨a, c, d, ?_⟩
    rw [setT_bit _ _ _ e2 (fun y hy => take_mem M blocks n y hy), Int.toNat_of_nonneg a]
    simp [List.mem_of_getElem? hx]
end Go.Proofs.Ytgfhepfikphliaa.Pn
