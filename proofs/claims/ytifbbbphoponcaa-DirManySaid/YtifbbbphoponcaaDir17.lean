/-
  dir: plain law for 'DirMany': names by numbers.
-/
import Derived.Test.YtifbbbphoponcaaDir12
import Derived.Test.YtifbbbphoponcaaDir9
namespace Go.Proofs.Ytifbbbphoponcaa.Dr
open Go.RowKit Wd Wi
set_option linter.unusedVariables false

def nm (k : Nat) : ByteArray := str [110, UInt8.ofNat (97 + k / 26), UInt8.ofNat (97 + k % 26)]
def en (k : Nat) : En := (nm k, ((1 + k % 47 : Nat) : Int))
theorem nm_may : ∀ k, k < 676 → mayB (en k) = true := by decide +kernel
theorem less3 (a b c d : UInt8) : Op.bytesLess [110, a, b] [110, c, d] = decide (a.toNat < c.toNat ∨ (a.toNat = c.toNat ∧ b.toNat < d.toNat)) := by
  have h1 : (a == c) = decide (a.toNat = c.toNat) := by
    rw [Bool.eq_iff_iff]
    simp [UInt8.toNat_inj]
  simp only [Op.bytesLess, UInt8.lt_iff_toNat_lt, h1, Bool.and_false, Bool.or_false]
  rw [Bool.eq_iff_iff]
  simp
theorem nm_lt {i j : Nat} (hi : i < 4000) (hj : j < 4000) : lt (nm i) (nm j) = decide (i < j) := by
  have h1 : (UInt8.ofNat (97 + i / 26)).toNat = 97 + i / 26 := by simp; omega
  have h2 : (UInt8.ofNat (97 + j / 26)).toNat = 97 + j / 26 := by simp; omega
  have h3 : (UInt8.ofNat (97 + i % 26)).toNat = 97 + i % 26 := by simp; omega
  have h4 : (UInt8.ofNat (97 + j % 26)).toNat = 97 + j % 26 := by simp; omega
  unfold lt nm
  rw [str_toList, str_toList, less3, h1, h2, h3, h4]
  congr 1
  apply propext
  omega
theorem nm_inj {i j : Nat} (hi : i < 4000) (hj : j < 4000) (h : nm i = nm j) : i = j := by
  have h1 := nm_lt hi hj
  have h2 := nm_lt hj hi
  rw [h, lt_irrefl] at h1
  rw [h, lt_irrefl] at h2
  have := of_decide_eq_false h1.symm
  have := of_decide_eq_false h2.symm
  omega
def GoodL (L : List En) : Prop := Srt L ∧ ∀ x ∈ L, ∃ k, k < 676 ∧ x = en k
theorem GoodL.nil : GoodL [] := ⟨List.Pairwise.nil, fun x hx => by simp at hx⟩
theorem GoodL.at {L : List En} (h : GoodL L) {i : Nat} (hi : i < L.length) : ∃ k, k < 676 ∧ L[i]? = some (en k) := by
  obtain ⟨k, h1, h2⟩ := h.2 L[i] (List.getElem_mem hi)
  exact ⟨k, h1, by rw [← h2]; exact List.getElem?_eq_getElem hi⟩
theorem has_ins (l : List En) (x : En) (s : ByteArray) : has (ins l x) s = (has l s || eqS x.1 s) := by
  unfold has ins
  rw [List.any_append, List.any_cons]
  conv => rhs; rw [← List.take_append_drop (pos l x.1) l, List.any_append]
  rw [← Bool.or_assoc, Bool.or_right_comm]
theorem goodL_ins {L : List En} (h : GoodL L) {k : Nat} (hk : k < 676) (hs : Srt (ins L (en k))) : GoodL (ins L (en k)) := by
  refine ⟨hs, fun y hy => ?_⟩
  unfold ins at hy
  rcases List.mem_append.1 hy with hy | hy
  · exact h.2 y (List.mem_of_mem_take hy)
  · rcases List.mem_cons.1 hy with rfl | hy
    · exact ⟨k, hk, rfl⟩
    · exact h.2 y (List.mem_of_mem_drop hy)
/-- what the law's array holds -/
def arr (L : List En) (k : Nat) : Nat := if has L (nm k) then 1 + k % 47 else 0
def arrL (L : List En) : List Nat := (List.range 676).map (arr L)
theorem arrL_len (L : List En) : (arrL L).length = 676 := by simp [arrL]
theorem arrL_at (L : List En) {k : Nat} (hk : k < 676) : (arrL L)[k]? = some (arr L k) := by
  unfold arrL
  rw [List.getElem?_map, List.getElem?_range hk]
  rfl
theorem arrL_nil : arrL [] = List.replicate 676 0 := by
  apply List.ext_getElem?
  intro j
  by_cases hj : j < 676
  · rw [arrL_at [] hj, List.getElem?_replicate, if_pos hj]
    rfl
  · rw [List.getElem?_eq_none (by rw [arrL_len]; omega), List.getElem?_eq_none (by rw [List.length_replicate]; omega)]
theorem arrL_ins (L : List En) {k : Nat} (hk : k < 676) : arrL (ins L (en k)) = (arrL L).set k (1 + k % 47) := by
  apply List.ext_getElem?
  intro j
  by_cases hj : j < 676
  · rw [arrL_at _ hj, List.getElem?_set]
    by_cases he : k = j
    · subst he
      rw [if_pos rfl, if_pos (by rw [arrL_len]; exact hk)]
      unfold arr
      rw [has_ins]
      simp [en, eqS_self]
    · rw [if_neg he, arrL_at _ hj]
      unfold arr
      rw [has_ins, show (en k).1 = nm k from rfl, eqS_no (fun e => he (nm_inj (by omega) (by omega) e)), Bool.or_false]
  · rw [List.getElem?_eq_none (by rw [arrL_len]; omega), List.getElem?_eq_none (by rw [List.length_set, arrL_len]; omega)]
theorem pos_zero {L : List En} (h : GoodL L) : pos L (nm 0) = 0 := by
  rcases Nat.eq_zero_or_pos (pos L (nm 0)) with h0 | h0
  · exact h0
  · have hle := pos_le L (nm 0)
    obtain ⟨k, hk, hx⟩ := h.at (i := 0) (by omega)
    have h1 := pos_spec h.1 (nm 0) 0 _ hx
    rw [show (en k).1 = nm k from rfl, nm_lt (by omega) (by omega), decide_eq_true h0] at h1
    have := of_decide_eq_true h1
    omega
theorem pos_all {L : List En} (h : GoodL L) : pos L (nm 676) = L.length := by
  have hle := pos_le L (nm 676)
  by_cases hlt : pos L (nm 676) < L.length
  · obtain ⟨k, hk, hx⟩ := h.at hlt
    have h1 := pos_spec h.1 (nm 676) _ _ hx
    rw [show (en k).1 = nm k from rfl, nm_lt (by omega) (by omega), decide_eq_true (by omega)] at h1
    have := of_decide_eq_true h1.symm
    omega
  · omega
theorem pos_has {L : List En} (h : GoodL L) {k : Nat} (hk : k < 676) (hh : has L (nm k) = true) : L[pos L (nm k)]? = some (en k) ∧ pos L (nm (k + 1)) = pos L (nm k) + 1 := by
  have hlt := pos_lt h.1 hh
  obtain ⟨a, ha, hx⟩ := h.at hlt
  have h0 := has_at h.1 (nm k)
  rw [hh, hx] at h0
  have h1 := nm_inj (by omega) (by omega) (eqS_iff.1 h0.symm)
  subst h1
  refine ⟨hx, ?_⟩
  have h2 := pos_spec h.1 (nm (a + 1)) _ _ hx
  rw [show (en a).1 = nm a from rfl, nm_lt (by omega) (by omega), decide_eq_true (by omega)] at h2
  have h3 := of_decide_eq_true h2.symm
  have hle := pos_le L (nm (a + 1))
  by_cases hn : pos L (nm a) + 1 < L.length
  · obtain ⟨c, hc, hy⟩ := h.at hn
    have h4 : lt (en a).1 (en c).1 = true := by
      obtain ⟨_, e1⟩ := List.getElem?_eq_some_iff.1 hx
      obtain ⟨_, e2⟩ := List.getElem?_eq_some_iff.1 hy
      rw [← e1, ← e2]
      exact List.pairwise_iff_getElem.1 h.1 _ _ _ _ (by omega)
    rw [show (en a).1 = nm a from rfl, show (en c).1 = nm c from rfl, nm_lt (by omega) (by omega)] at h4
    have h5 := of_decide_eq_true h4
    have h6 := pos_spec h.1 (nm (a + 1)) _ _ hy
    rw [show (en c).1 = nm c from rfl, nm_lt (by omega) (by omega), decide_eq_false (by omega)] at h6
    have := of_decide_eq_false h6.symm
    omega
  · omega
theorem pos_hasnt {L : List En} (h : GoodL L) {k : Nat} (hk : k < 676) (hh : has L (nm k) = false) : pos L (nm (k + 1)) = pos L (nm k) := by
  have hle := pos_le L (nm k)
  have hle2 := pos_le L (nm (k + 1))
  rcases Nat.lt_trichotomy (pos L (nm (k + 1))) (pos L (nm k)) with hlt | he | hlt
  · obtain ⟨a, ha, hx⟩ := h.at (i := pos L (nm (k + 1))) (by omega)
    have h1 := pos_spec h.1 (nm k) _ _ hx
    have h2 := pos_spec h.1 (nm (k + 1)) _ _ hx
    rw [show (en a).1 = nm a from rfl, nm_lt (by omega) (by omega), decide_eq_true hlt] at h1
    rw [show (en a).1 = nm a from rfl, nm_lt (by omega) (by omega), decide_eq_false (Nat.lt_irrefl _)] at h2
    have := of_decide_eq_true h1
    have := of_decide_eq_false h2
    omega
  · exact he
  · obtain ⟨a, ha, hx⟩ := h.at (i := pos L (nm k)) (by omega)
    have h1 := pos_spec h.1 (nm k) _ _ hx
    have h2 := pos_spec h.1 (nm (k + 1)) _ _ hx
    rw [show (en a).1 = nm a from rfl, nm_lt (by omega) (by omega), decide_eq_false (Nat.lt_irrefl _)] at h1
    rw [show (en a).1 = nm a from rfl, nm_lt (by omega) (by omega), decide_eq_true hlt] at h2
    have h3 := of_decide_eq_false h1
    have h4 := of_decide_eq_true h2
    obtain rfl : a = k := by omega
    have := List.any_eq_false.1 hh _ (List.mem_of_getElem? hx)
    exact (this (eqS_self (nm a))).elim
end Go.Proofs.Ytifbbbphoponcaa.Dr
