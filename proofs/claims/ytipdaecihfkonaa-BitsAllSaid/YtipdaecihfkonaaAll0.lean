/-
  Plain law for 'BitsAll': the document's list in order of single blocks is the list of stretches.
-/
import Derived.Test.YtipdaecihfkonaaBit1
namespace Go.Proofs.Ytipdaecihfkonaa.Bt
open Go.RowKit Wd By Sp Fl Ga
set_option linter.unusedVariables false

abbrev Ps := List (Int × Int)
/-- one round of the inner loop: x, the new list, whether x is in it -/
def stN (q : (Int × Int) × Ps × Bool) (y : Int × Int) : (Int × Int) × Ps × Bool :=
  if y.2 < q.1.1 then (q.1, q.2.1 ++ [y], q.2.2)
  else if q.1.2 < y.1 then (q.1, (if q.2.2 then q.2.1 else q.2.1 ++ [q.1]) ++ [y], true)
  else ((min q.1.1 y.1, max q.1.2 y.2), q.2.1, q.2.2)
def inN (x : Int × Int) (m : Ps) (k : Nat) : (Int × Int) × Ps × Bool := (m.take k).foldl stN (x, [], false)
def clN (q : (Int × Int) × Ps × Bool) : Ps := if q.2.2 then q.2.1 else q.2.1 ++ [q.1]
def rdN (m : Ps) (x : Int × Int) : Ps := clN (inN x m m.length)
/-- the document's Norm -/
def nmR (l : Ps) (k : Nat) : Ps := (l.take k).foldl rdN []
theorem inN_succ (x : Int × Int) {m : Ps} {k : Nat} {y : Int × Int} (h : m[k]? = some y) : inN x m (k + 1) = stN (inN x m k) y := by
  unfold inN
  rw [List.take_add_one, h, List.foldl_append]
  rfl
theorem nmR_succ {l : Ps} {k : Nat} {x : Int × Int} (h : l[k]? = some x) : nmR l (k + 1) = rdN (nmR l k) x := by
  unfold nmR
  rw [List.take_add_one, h, List.foldl_append]
  rfl
theorem stN_len (q : (Int × Int) × Ps × Bool) (y : Int × Int) (c : Nat) (h : q.2.1.length ≤ c + (if q.2.2 then 1 else 0)) : (stN q y).2.1.length ≤ c + 1 + (if (stN q y).2.2 then 1 else 0) := by
  obtain ⟨x, n, d⟩ := q
  unfold stN
  simp only at h ⊢
  split
  · simp only [List.length_append, List.length_cons, List.length_nil]; omega
  · split
    · cases d <;> simp at h ⊢ <;> omega
    · simp only; omega
theorem inN_len (x : Int × Int) (m : Ps) : ∀ k, (inN x m k).2.1.length ≤ k + (if (inN x m k).2.2 then 1 else 0)
  | 0 => by simp [inN]
  | k + 1 => by
    have ih := inN_len x m k
    cases h : m[k]? with
    | some y => rw [inN_succ x h]; exact stN_len _ _ _ ih
    | none =>
      have e : inN x m (k + 1) = inN x m k := by unfold inN; rw [List.take_add_one, h, Option.toList_none, List.append_nil]
      rw [e]; omega
theorem rdN_len (m : Ps) (x : Int × Int) : (rdN m x).length ≤ m.length + 1 := by
  have h := inN_len x m m.length
  unfold rdN clN
  cases hd : (inN x m m.length).2.2 <;> simp [hd] at h ⊢ <;> omega
theorem nmR_len (l : Ps) : ∀ k, (nmR l k).length ≤ k
  | 0 => Nat.le_refl _
  | k + 1 => by
    have ih := nmR_len l k
    cases h : l[k]? with
    | some y => rw [nmR_succ h]; exact Nat.le_trans (rdN_len _ _) (by omega)
    | none =>
      have e : nmR l (k + 1) = nmR l k := by unfold nmR; rw [List.take_add_one, h, Option.toList_none, List.append_nil]
      rw [e]; omega
/-- parts: where they lie -/
def Bd (p : Int × Int) : Prop := 0 ≤ p.1 ∧ p.1 ≤ 4096 ∧ 0 ≤ p.2 ∧ p.2 ≤ 4096
theorem stN_bd (q : (Int × Int) × Ps × Bool) (y : Int × Int) (hq : Bd q.1 ∧ ∀ p ∈ q.2.1, Bd p) (hy : Bd y) : Bd (stN q y).1 ∧ ∀ p ∈ (stN q y).2.1, Bd p := by
  obtain ⟨x, n, d⟩ := q
  obtain ⟨h1, h2⟩ := hq
  unfold stN
  simp only at h1 h2 ⊢
  split
  · refine ⟨h1, fun p hp => ?_⟩
    rcases List.mem_append.1 hp with hp | hp
    · exact h2 p hp
    · rw [List.mem_singleton.1 hp]; exact hy
  · split
    · refine ⟨h1, fun p hp => ?_⟩
      rcases List.mem_append.1 hp with hp | hp
      · cases d
        · rcases List.mem_append.1 hp with hp | hp
          · exact h2 p hp
          · rw [List.mem_singleton.1 hp]; exact h1
        · exact h2 p hp
      · rw [List.mem_singleton.1 hp]; exact hy
    · refine ⟨?_, h2⟩
      unfold Bd at *
      simp only
      omega
theorem inN_bd (x : Int × Int) (m : Ps) (hx : Bd x) (hm : ∀ p ∈ m, Bd p) : ∀ k, Bd (inN x m k).1 ∧ ∀ p ∈ (inN x m k).2.1, Bd p
  | 0 => ⟨hx, fun p hp => by simp [inN] at hp⟩
  | k + 1 => by
    have ih := inN_bd x m hx hm k
    cases h : m[k]? with
    | some y => rw [inN_succ x h]; exact stN_bd _ _ ih (hm y (List.mem_of_getElem? h))
    | none =>
      have e : inN x m (k + 1) = inN x m k := by unfold inN; rw [List.take_add_one, h, Option.toList_none, List.append_nil]
      rw [e]; exact ih
theorem rdN_bd (m : Ps) (x : Int × Int) (hx : Bd x) (hm : ∀ p ∈ m, Bd p) : ∀ p ∈ rdN m x, Bd p := by
  obtain ⟨h1, h2⟩ := inN_bd x m hx hm m.length
  unfold rdN clN
  split
  · exact h2
  · intro p hp
    rcases List.mem_append.1 hp with hp | hp
    · exact h2 p hp
    · rw [List.mem_singleton.1 hp]; exact h1
theorem nmR_bd (l : Ps) (hl : ∀ p ∈ l, Bd p) : ∀ k, ∀ p ∈ nmR l k, Bd p
  | 0 => fun p hp => by simp [nmR] at hp
  | k + 1 => by
    have ih := nmR_bd l hl k
    cases h : l[k]? with
    | some y => rw [nmR_succ h]; exact rdN_bd _ _ (hl y (List.mem_of_getElem? h)) ih
    | none =>
      have e : nmR l (k + 1) = nmR l k := by unfold nmR; rw [List.take_add_one, h, Option.toList_none, List.append_nil]
      rw [e]; exact ih
/-! ### singles -/
/-- those that end ahead of x stay -/
theorem fold_low (x : Int × Int) : ∀ (m n : Ps), (∀ y ∈ m, y.2 < x.1) → m.foldl stN (x, n, false) = (x, n ++ m, false)
  | [], n, _ => by simp
  | y :: m, n, h => by
    rw [List.foldl_cons]
    have : stN (x, n, false) y = (x, n ++ [y], false) := by
      unfold stN
      rw [if_pos (h y (by simp))]
    rw [this, fold_low x m _ fun z hz => h z (by simp [hz]), List.append_assoc]
    rfl
def pairP (p : Int × Int) : Int × Int := (p.1, p.1 + p.2)
/-- the stretches up to k, as ends; the last one may be open -/
def opP (L : List UInt8) (blocks : Int) (k : Nat) : Ps := (spS L blocks k).2.map pairP ++ if (spS L blocks k).1 < k then [(((spS L blocks k).1 : Int), (k : Int))] else []
def one (x : Int) : Int × Int := (x, x + 1)
theorem sp_low (L : List UInt8) (blocks : Int) : ∀ k, ∀ y ∈ (spS L blocks k).2.map pairP, y.2 < ((spS L blocks k).1 : Int)
  | 0, y, h => by simp [spS] at h
  | k + 1, y, h => by
    have ih := sp_low L blocks k
    have hf := sp_from L blocks k
    rw [sp_succ] at h ⊢
    split at h
    · rw [if_pos (by assumption)]
      exact ih y h
    · rw [if_neg (by assumption)]
      simp only at h ⊢
      split at h
      · rw [List.map_append] at h
        rcases List.mem_append.1 h with h | h
        · have := ih y h; omega
        · simp only [List.map_cons, List.map_nil, List.mem_singleton, pairP] at h
          rw [h]; simp only; omega
      · have := ih y h; omega
theorem rd_one (L : List UInt8) (blocks : Int) (k : Nat) (h : fr L blocks k = true) : rdN (opP L blocks k) (one (k : Int)) = opP L blocks (k + 1) := by
  have hf := sp_from L blocks k
  have hlow := sp_low L blocks k
  have e1 : (spS L blocks (k + 1)).1 = (spS L blocks k).1 ∧ (spS L blocks (k + 1)).2 = (spS L blocks k).2 := by
    rw [sp_succ, if_pos h]
    exact ⟨rfl, rfl⟩
  obtain ⟨C, hC⟩ : ∃ C, C = (spS L blocks k).2.map pairP := ⟨_, rfl⟩
  obtain ⟨f, hfe⟩ : ∃ f, f = (spS L blocks k).1 := ⟨_, rfl⟩
  rw [← hC, ← hfe] at hlow
  rw [← hfe] at hf
  have hR : opP L blocks (k + 1) = C ++ [((f : Int), (k : Int) + 1)] := by
    unfold opP
    rw [e1.1, e1.2, ← hC, ← hfe]
    have hc : f < k + 1 := by omega
    rw [if_pos hc]
    rfl
  have hL : opP L blocks k = C ++ if f < k then [((f : Int), (k : Int))] else [] := by
    unfold opP
    rw [← hC, ← hfe]
  have hfold : ∀ r : Ps, (C ++ r).foldl stN (one (k : Int), [], false) = r.foldl stN (one (k : Int), C, false) := fun r => by
    rw [List.foldl_append, fold_low (one (k : Int)) C [] (fun y hy => by
      have := hlow y hy
      show y.2 < (k : Int)
      omega), List.nil_append]
  rw [hL, hR]
  unfold rdN inN
  rw [List.take_of_length_le (Nat.le_refl _), hfold]
  by_cases hlt : f < k
  · rw [if_pos hlt]
    have hs : stN (one (k : Int), C, false) ((f : Int), (k : Int)) = (((f : Int), (k : Int) + 1), C, false) := by
      unfold stN one
      simp only
      rw [if_neg (by omega), if_neg (by omega), Int.min_eq_right (by omega), Int.max_eq_left (by omega)]
    rw [List.foldl_cons, List.foldl_nil, hs]
    rfl
  · rw [if_neg hlt]
    have e : f = k := by omega
    rw [e]
    rfl
theorem op_no (L : List UInt8) (blocks : Int) (k : Nat) (h : fr L blocks k = false) : opP L blocks (k + 1) = opP L blocks k := by
  have hf := sp_from L blocks k
  have e1 : (spS L blocks (k + 1)).1 = k + 1 := by rw [sp_succ, if_neg (by rw [h]; decide)]
  have e2 : (spS L blocks (k + 1)).2 = if (spS L blocks k).1 < k then (spS L blocks k).2 ++ [(((spS L blocks k).1 : Int), (k : Int) - ((spS L blocks k).1 : Int))] else (spS L blocks k).2 := by rw [sp_succ, if_neg (by rw [h]; decide)]
  unfold opP
  rw [e1, e2, if_neg (Nat.lt_irrefl _), List.append_nil]
  by_cases hlt : (spS L blocks k).1 < k
  · rw [if_pos hlt, if_pos hlt, List.map_append]
    congr 1
    show [(((spS L blocks k).1 : Int), ((spS L blocks k).1 : Int) + ((k : Int) - ((spS L blocks k).1 : Int)))] = _
    congr 2
    omega
  · rw [if_neg hlt, if_neg hlt, List.append_nil]
theorem fold_ones (L : List UInt8) (blocks : Int) : ∀ k, ((frees L blocks k).map one).foldl rdN [] = opP L blocks k
  | 0 => rfl
  | k + 1 => by
    have ih := fold_ones L blocks k
    rw [frees_succ]
    cases h : fr L blocks k
    · rw [op_no L blocks k h]
      exact ih
    · rw [if_pos rfl, List.map_append, List.foldl_append, ih]
      exact rd_one L blocks k h
/-- the document's list in order of the free blocks -/
theorem norm_ones (L : List UInt8) (blocks : Int) : nmR ((frees L blocks (top blocks)).map one) ((frees L blocks (top blocks)).map one).length = (spans L blocks).map pairP := by
  have h := fold_ones L blocks (top blocks + 1)
  have h2 : (spS L blocks (top blocks + 1)).1 = top blocks + 1 := by
    rw [sp_succ, fr_top]
    simp
  rw [frees_succ, fr_top] at h
  unfold nmR
  rw [List.take_of_length_le (Nat.le_refl _)]
  refine Eq.trans h ?_
  unfold opP spans
  rw [h2, if_neg (by omega), List.append_nil]
end Go.Proofs.Ytipdaecihfkonaa.Bt
