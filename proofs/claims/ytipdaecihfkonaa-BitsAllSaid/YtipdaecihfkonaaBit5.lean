/-
  plain laws of what is taken and set.
-/
import Derived.Test.YtipdaecihfkonaaBit4
namespace Go.Proofs.Ytipdaecihfkonaa.Bt
open Fl Sp Go.RowKit Wd By
set_option linter.unusedVariables false
theorem own_bel {w w' : World} {base s n : Nat} {e : TypeId} {v : Value} {xs : List Value} (h : w.ownsRow base e s v n xs) (hb : Below w.heap.size w w') : w'.ownsRow base e s v n xs :=
  h.kept (row := none) ⟨hb.os, hb.tape, hb.output, hb.size, fun k hk _ => hb.block k hk⟩ (by cases v.ownBlock <;> simp)
theorem own_only {w w' : World} {base b : Nat} {e : TypeId} {size n : Nat} {v : Value} {xs : List Value} (h : w.ownsRow base e size v n xs) (ho : Only b w w') (hb : b < base) : w'.ownsRow base e size v n xs := by
  refine ⟨h.1, ?_⟩
  rcases h.2 with hn | ⟨g, cap, cur, rfl, hbb, hgg, rest⟩
  · exact .inl hn
  · exact .inr ⟨g, cap, cur, rfl, hbb, by rw [ho.block g (by omega)]; exact hgg, rest⟩
theorem used_bit {L : List UInt8} (hl : L.length = 128) {n : Nat} (h : n < 1024) : usedB L (n : Int) = bitN L n := by
  unfold usedB
  rw [hl]
  have e1 : decide ((n : Int) < 0) = false := by simp
  have e2 : decide (1024 ≤ (n : Int)) = false := by simp; omega
  rw [e1, e2, Int.toNat_natCast]
  simp
def setT (M : List UInt8) (T : List Int) : List UInt8 := T.foldl (fun M x => setB M x.toNat true) M
theorem setT_snoc (M : List UInt8) (T : List Int) (x : Int) : setT M (T ++ [x]) = setB (setT M T) x.toNat true := by simp [setT]
theorem setT_len (M : List UInt8) : ∀ T : List Int, (setT M T).length = M.length
  | [] => rfl
  | x :: r => by
    show (setT (setB M x.toNat true) r).length = _
    rw [setT_len _ r, setB_len]
theorem setT_bit (n : Nat) : ∀ (T : List Int) (M : List UInt8), M.length = 128 → (∀ x ∈ T, 0 ≤ x ∧ x < 1024) → bitN (setT M T) n = (bitN M n || decide ((n : Int) ∈ T))
  | [], M, _, _ => by simp [setT]
  | x :: r, M, hM, hT => by
    show bitN (setT (setB M x.toNat true) r) n = _
    have hx := hT x (by simp)
    rw [setT_bit n r _ (by rw [setB_len, hM]) fun y hy => hT y (by simp [hy]), bit_set hM (by omega)]
    by_cases h : n = x.toNat
    · have : (n : Int) = x := by omega
      rw [if_pos h]
      simp [this]
    · have : ¬ (n : Int) = x := by omega
      rw [if_neg h]
      simp [this]
theorem fr_setT {M : List UInt8} (hM : M.length = 128) {T : List Int} (hT : ∀ x ∈ T, 0 ≤ x ∧ x < 1024) (blocks : Int) {n : Nat} (hn : n < 1024) : fr (setT M T) blocks n = (fr M blocks n && !decide ((n : Int) ∈ T)) := by
  unfold fr
  rw [used_bit (by rw [setT_len, hM]) hn, used_bit hM hn, setT_bit n T M hM hT]
  cases bitN M n <;> cases decide ((n : Int) ∈ T) <;> simp
theorem frees_setT {M : List UInt8} (hM : M.length = 128) {T : List Int} (hT : ∀ x ∈ T, 0 ≤ x ∧ x < 1024) (blocks : Int) : ∀ k : Nat, k ≤ 1024 → frees (setT M T) blocks k = (frees M blocks k).filter fun x => !decide (x ∈ T)
  | 0, _ => by simp [frees]
  | k + 1, hk => by
    rw [frees_succ, frees_succ, fr_setT hM hT blocks (by omega), frees_setT hM hT blocks k (by omega)]
    cases fr M blocks k
    · simp
    · by_cases h : (k : Int) ∈ T <;> simp [h]
theorem frees_nodup (L : List UInt8) (blocks : Int) (k : Nat) : (frees L blocks k).Nodup := by
  unfold frees
  exact List.Pairwise.map _ (fun a b h e => h (Int.ofNat_inj.1 e)) (List.Pairwise.filter _ List.nodup_range)
theorem filter_take : ∀ (F : List Int) (r : Nat), F.Nodup → F.filter (fun x => !decide (x ∈ F.take r)) = F.drop r
  | F, 0, _ => by simp
  | [], _ + 1, _ => by simp
  | x :: F, r + 1, h => by
    obtain ⟨h1, h2⟩ := List.nodup_cons.1 h
    simp only [List.take_succ_cons, List.drop_succ_cons]
    rw [List.filter_cons_of_neg (by simp), ← filter_take F r h2]
    apply List.filter_congr
    intro y hy
    have : y ≠ x := fun e => h1 (e ▸ hy)
    simp [this]
theorem takeL_form (L : List UInt8) (blocks n : Int) : takeL L blocks n = (frees L blocks (top blocks)).take (if takeB L blocks n then n.toNat else 0) := by
  unfold takeL
  cases takeB L blocks n <;> simp
theorem take_mem (L : List UInt8) (blocks n : Int) : ∀ x ∈ takeL L blocks n, 0 ≤ x ∧ x < 1024 := by
  intro x hx
  obtain ⟨i, hi⟩ := List.getElem?_of_mem hx
  have := take_gap L blocks n i x hi
  exact ⟨this.1, this.2.1⟩
/-- behind what was taken is set, so many less are free -/
theorem frees_taken {M : List UInt8} (hM : M.length = 128) (blocks n : Int) : ((frees (setT M (takeL M blocks n)) blocks (top blocks)).length : Int) = if takeB M blocks n then ((frees M blocks (top blocks)).length : Int) - n else ((frees M blocks (top blocks)).length : Int) := by
  rw [frees_setT hM (take_mem M blocks n) blocks _ (top_le blocks), takeL_form, filter_take _ _ (frees_nodup M blocks _), List.length_drop]
  cases h : takeB M blocks n
  · simp
  · have := of_decide_eq_true h
    rw [if_pos rfl, if_pos rfl]
    omega
theorem takeL_len (L : List UInt8) (blocks n : Int) (h : takeB L blocks n = true) : ((takeL L blocks n).length : Int) = n := by
  have h2 := of_decide_eq_true h
  rw [takeL_form, h, if_pos rfl, List.length_take]
  omega
/-- what is taken is free still when all ahead of it are set -/
theorem taken_free {M : List UInt8} (hM : M.length = 128) (blocks n : Int) {j : Nat} {x : Int} (hx : (takeL M blocks n)[j]? = some x) : usedB (setT M ((takeL M blocks n).take j)) x = false := by
  obtain ⟨a, b, c, d, _⟩ := take_gap M blocks n j x hx
  obtain ⟨m, rfl⟩ := Int.eq_ofNat_of_zero_le a
  rw [used_bit hM (by omega)] at d
  rw [used_bit (by rw [setT_len, hM]) (by omega), setT_bit m _ M hM (fun y hy => take_mem M blocks n y (List.mem_of_mem_take hy)), d]
  simp only [Bool.false_or, decide_eq_false_iff_not]
  intro hm
  obtain ⟨i, hi⟩ := List.getElem?_of_mem hm
  rw [List.getElem?_take] at hi
  split at hi
  · rename_i hij
    have hnd : (takeL M blocks n).Nodup := by rw [takeL_form]; exact (frees_nodup M blocks _).sublist (List.take_sublist _ _)
    have h1 := (List.getElem?_eq_some_iff.1 hi)
    have h2 := (List.getElem?_eq_some_iff.1 hx)
    obtain ⟨q1, q2⟩ := h1
    obtain ⟨q3, q4⟩ := h2
    have := List.pairwise_iff_getElem.1 hnd i j q1 q3 hij
    exact this (q2.trans q4.symm)
  · cases hi
end Go.Proofs.Ytipdaecihfkonaa.Bt
