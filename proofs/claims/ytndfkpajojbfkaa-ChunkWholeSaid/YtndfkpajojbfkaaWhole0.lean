/-
  Plain law for 'ChunkWhole': a file's bytes, and its blocks.
-/
import Derived.Test.YtndfkpajojbfkaaChunk5
namespace Go.Proofs.Ytndfkpajojbfkaa.Ck
open Go.RowKit Wd Is Sp Fl Ga By
set_option linter.unusedVariables false

abbrev Bls := Nat → List UInt8
/-- the blocks have just the bytes of the file -/
def Good (B : Bls) (c : List UInt8) : Prop := (∀ k, (B k).length = 0 ∨ (B k).length = 128) ∧ ∀ k j, k < 32 → j < 128 → (B k).getD j 0 = c.getD (128 * k + j) 0
def zer (n : Nat) : List UInt8 := List.replicate n 0
theorem zer_get (n i : Nat) : (zer n).getD i 0 = 0 := by
  unfold zer
  rw [List.getD_eq_getElem?_getD, List.getElem?_replicate]
  split <;> rfl
theorem app_get (a b : List UInt8) (i : Nat) : (a ++ b).getD i 0 = if i < a.length then a.getD i 0 else b.getD (i - a.length) 0 := by
  by_cases h : i < a.length
  · rw [if_pos h, List.getD_eq_getElem?_getD, List.getElem?_append_left h, ← List.getD_eq_getElem?_getD]
  · rw [if_neg h, List.getD_eq_getElem?_getD, List.getElem?_append_right (by omega), ← List.getD_eq_getElem?_getD]
theorem get_far (a : List UInt8) {i : Nat} (h : a.length ≤ i) : a.getD i 0 = 0 := by
  rw [List.getD_eq_getElem?_getD, List.getElem?_eq_none h]
  rfl
theorem drop_get (a : List UInt8) (n i : Nat) : (a.drop n).getD i 0 = a.getD (n + i) 0 := by
  rw [List.getD_eq_getElem?_getD, List.getElem?_drop, ← List.getD_eq_getElem?_getD]
theorem take_get (a : List UInt8) (n i : Nat) : (a.take n).getD i 0 = if i < n then a.getD i 0 else 0 := by
  rw [List.getD_eq_getElem?_getD, List.getElem?_take]
  split
  · rw [← List.getD_eq_getElem?_getD]
  · rfl
theorem pad_get (a : List UInt8) (n i : Nat) : (a ++ zer n).getD i 0 = a.getD i 0 := by
  rw [app_get]
  split
  · rfl
  · rw [zer_get, get_far a (by omega)]
/-- the first k blocks of a file -/
def stB (c : List UInt8) (k : Nat) : Bls := fun i => if i < k then over (c.drop (128 * i)) (List.replicate 128 0) else []
theorem over_get (l : List UInt8) {j : Nat} (h : j < 128) : (over l (List.replicate 128 0)).getD j 0 = l.getD j 0 := by
  unfold over
  rw [app_get, List.length_take, List.length_replicate]
  split
  · rw [take_get, if_pos h]
  · rw [drop_get]
    have := zer_get 128 (l.length + (j - min 128 l.length))
    unfold zer at this
    rw [this, get_far l (by omega)]
theorem over_128 (l : List UInt8) : (over l (List.replicate 128 0)).length = 128 := by rw [over_len, List.length_replicate]
theorem st_good (c : List UInt8) (n : Nat) (hn : c.length ≤ 128 * n) : Good (stB c n) c := by
  refine ⟨fun k => ?_, fun k j hk hj => ?_⟩
  · unfold stB
    split
    · exact .inr (over_128 _)
    · exact .inl rfl
  · unfold stB
    split
    · rw [over_get _ hj, drop_get]
    · rw [get_far c (by omega)]
      rfl
theorem st_len (c : List UInt8) (n k : Nat) : (stB c n k).length = 0 ∨ (stB c n k).length = 128 := by
  unfold stB
  split
  · exact .inr (over_128 _)
  · exact .inl rfl
theorem st_succ (c : List UInt8) (k : Nat) : stB c (k + 1) = fun i => if i = k then over (c.drop (128 * k)) (List.replicate 128 0) else stB c k i := by
  funext i
  unfold stB
  by_cases h : i = k
  · subst h
    rw [if_pos (by omega), if_pos rfl]
  · rw [if_neg h]
    by_cases h2 : i < k
    · rw [if_pos (by omega), if_pos h2]
    · rw [if_neg (by omega), if_neg h2]
/-- behind j blocks from f on that are filled -/
def flB (B : Bls) (d : List UInt8) (s a f j : Nat) : Bls := fun k => if f ≤ k ∧ k < f + j then fillL (B k) d (128 * k) s a else B k
theorem fillL_len (old d : List UInt8) (P s a : Nat) : (fillL old d P s a).length = 128 := by unfold fillL; rw [cur_len]
theorem fillL_at (old d : List UInt8) (P s a : Nat) {j : Nat} (h : j < 128) : (fillL old d P s a).getD j 0 = fillB old d P s a j := by
  unfold fillL cur
  rw [List.getD_eq_getElem?_getD, List.getElem?_map, List.getElem?_range h]
  simp [h]
theorem fl_zero (B : Bls) (d : List UInt8) (s a f : Nat) : flB B d s a f 0 = B := by
  funext k
  unfold flB
  rw [if_neg (by omega)]
theorem fl_succ (B : Bls) (d : List UInt8) (s a f j : Nat) : flB B d s a f (j + 1) = fun k => if k = f + j then fillL (B (f + j)) d (128 * (f + j)) s a else flB B d s a f j k := by
  funext k
  unfold flB
  by_cases h : k = f + j
  · rw [if_pos h, if_pos (by omega), h]
  · rw [if_neg h]
    by_cases h2 : f ≤ k ∧ k < f + j
    · rw [if_pos h2, if_pos (by omega)]
    · rw [if_neg h2, if_neg (by omega)]
theorem fl_next (B : Bls) (d : List UInt8) (s a f j : Nat) : flB B d s a f j (f + j) = B (f + j) := by
  unfold flB
  rw [if_neg (by omega)]
theorem fl_len {B : Bls} (h : ∀ k, (B k).length = 0 ∨ (B k).length = 128) (d : List UInt8) (s a f j k : Nat) : (flB B d s a f j k).length = 0 ∨ (flB B d s a f j k).length = 128 := by
  unfold flB
  split
  · exact .inr (fillL_len _ _ _ _ _)
  · exact h k
/-- written over, from p on -/
def wrL (c : List UInt8) (p : Nat) (d : List UInt8) : List UInt8 := c.take p ++ d ++ c.drop (p + d.length)
theorem wrL_len {c : List UInt8} {p : Nat} {d : List UInt8} (h : p + d.length ≤ c.length) : (wrL c p d).length = c.length := by
  unfold wrL
  simp
  omega
theorem wrL_nil (c : List UInt8) (p : Nat) : wrL c p [] = c := by
  unfold wrL
  simp
theorem wrL_get {c : List UInt8} {p : Nat} {d : List UInt8} (h : p + d.length ≤ c.length) (i : Nat) : (wrL c p d).getD i 0 = if p ≤ i ∧ i < p + d.length then d.getD (i - p) 0 else c.getD i 0 := by
  unfold wrL
  have h1 : (c.take p).length = p := by rw [List.length_take]; omega
  rw [app_get, List.length_append, h1]
  split
  · rw [app_get, h1]
    split
    · rw [take_get, if_pos (by assumption), if_neg (by omega)]
    · rw [if_pos (by omega)]
  · rw [drop_get, if_neg (by omega)]
    congr 1
    omega
/-- the file behind a write -/
def newC (c : List UInt8) (a : Nat) (d : List UInt8) (n : Nat) : List UInt8 := wrL (c ++ zer (n - c.length)) (min a n) d
theorem newC_len {c : List UInt8} {a n : Nat} {d : List UInt8} (h1 : c.length ≤ n) (h2 : d = [] ∨ a + d.length ≤ n) : (newC c a d n).length = n := by
  have hp : (c ++ zer (n - c.length)).length = n := by unfold zer; simp; omega
  unfold newC
  rw [wrL_len, hp]
  rw [hp]
  rcases h2 with rfl | h2
  · simp; omega
  · omega
theorem newC_get {c : List UInt8} {a n : Nat} {d : List UInt8} (h1 : c.length ≤ n) (h2 : d = [] ∨ a + d.length ≤ n) (i : Nat) : (newC c a d n).getD i 0 = if a ≤ i ∧ i < a + d.length then d.getD (i - a) 0 else c.getD i 0 := by
  have hp : (c ++ zer (n - c.length)).length = n := by unfold zer; simp; omega
  unfold newC
  rcases h2 with rfl | h2
  · rw [wrL_nil, pad_get, if_neg (fun h => by have := h.1; have := h.2; simp at this; omega)]
  · rw [wrL_get (by rw [hp]; omega), pad_get, Nat.min_eq_left (by omega)]
theorem step_good {B : Bls} {c : List UInt8} (h : Good B c) {a n : Nat} {d : List UInt8} (h1 : c.length ≤ n) (h2 : d = [] ∨ a + d.length ≤ n) (h3 : d ≠ [] → a + d.length ≤ 4096) :
    Good (flB B d c.length a (a / 128) (cnt a d.length)) (newC c a d n) := by
  obtain ⟨g1, g2⟩ := h
  refine ⟨fl_len g1 _ _ _ _ _, fun k j hk hj => ?_⟩
  rw [newC_get h1 h2]
  have hb := g2 k j hk hj
  unfold flB
  by_cases ht : a / 128 ≤ k ∧ k < a / 128 + cnt a d.length
  · rw [if_pos ht, fillL_at _ _ _ _ _ hj]
    unfold fillB
    split
    · rfl
    · split
      · exact hb
      · rename_i h4
        by_cases hs : 128 * k + j < c.length
        · have : (B k).length = 0 := by omega
          rw [← hb, List.eq_nil_of_length_eq_zero this]
          rfl
        · rw [get_far c (by omega)]
  · rw [if_neg ht, if_neg, hb]
    rintro ⟨h4, h5⟩
    apply ht
    unfold cnt
    have : d.length ≠ 0 := by omega
    rw [if_neg this]
    omega
/-- the byte that is asked for -/
theorem good_at {B : Bls} {c : List UInt8} (h : Good B c) {k : Nat} (hk : k < c.length) (hc : c.length ≤ 4096) : (B (k / 128)).getD (k % 128) 0 = c.getD k 0 := by
  rw [h.2 (k / 128) (k % 128) (by omega) (by omega)]
  congr 1
  omega
end Go.Proofs.Ytndfkpajojbfkaa.Ck
