/-
  Plain law for 'AllocKeeps', fifth part: what Next answers.
-/
import Derived.Test.YtgfhepfikphliaaKeep4
namespace Go.Proofs.Ytgfhepfikphliaa.Al
open Go.RowKit Wd In
set_option linter.unusedVariables false

theorem pk_mono {old : List Int} (hl : old.length = 37) (wh : Nat → Bool) (j : Nat) : ∀ d, (pkS old wh j).2.2 ≤ (pkS old wh (j + d)).2.2
  | 0 => Int.le_refl _
  | d + 1 => by
    have ih := pk_mono hl wh j d
    rw [show j + (d + 1) = (j + d) + 1 by omega, pkS]
    split
    · have := (nx_spec hl (pkS old wh (j + d)).2.2).2.1
      simp only
      omega
    · exact ih
theorem tkn_bd {old : List Int} (hl : old.length = 37) (wh : Nat → Bool) (j : Nat) (hw : wh j = true) : 74 ≤ tkn old wh j ∧ tkn old wh j < (pkS old wh (j + 1)).2.2 ∧ (pkS old wh j).2.2 ≤ tkn old wh j ∧ hasP old (tkn old wh j) = false := by
  obtain ⟨q1, q2, q3, q4⟩ := nx_spec hl (pkS old wh j).2.2
  have h1 := (pk_ts hl wh j).1
  refine ⟨?_, ?_, q2, q1⟩
  · unfold tkn; omega
  · rw [pkS, if_pos hw]
    simp only [tkn]
    omega
theorem tkn_lt {old : List Int} (hl : old.length = 37) (wh : Nat → Bool) {j k : Nat} (hj : wh j = true) (hk : wh k = true) (h : j < k) : tkn old wh j < tkn old wh k := by
  have h1 := (tkn_bd hl wh j hj).2.1
  have h2 := (tkn_bd hl wh k hk).2.2.1
  have h3 := pk_mono hl wh (j + 1) (k - (j + 1))
  rw [show j + 1 + (k - (j + 1)) = k by omega] at h3
  omega
/-- the k-th pointer that shall be -/
def wantQ (old : List Int) (wh : Nat → Bool) (n k : Nat) : Int := if k < n ∧ wh k = true then tkn old wh k else if k < n then old.getD (5 + k) 0 else 0
theorem hasP_at {xs : List Int} {k : Nat} (hk : k < 32) : hasP xs (xs.getD (5 + k) 0) = true := by
  unfold hasP hasTo
  exact List.any_eq_true.2 ⟨k, List.mem_range.2 hk, by simp⟩
theorem ok_apart {d : Bool} {s : Int} {ps : List Int} {k : Nat} (h : okAt d s ps k = true) (h0 : ¬ ps.getD k 0 = 0) : ((k : Int) * 128 < s) ∧ (74 ≤ ps.getD k 0 ∧ ps.getD k 0 ≤ 1023) ∧ ∀ j, j < k → j < ps.length → ps.getD j 0 ≠ ps.getD k 0 := by
  unfold okAt at h
  rw [if_neg h0] at h
  simp only [Bool.and_eq_true, decide_eq_true_eq, inB, Bool.not_eq_true', List.contains_eq_mem, decide_eq_false_iff_not] at h
  obtain ⟨⟨h1, h2⟩, h3⟩ := h
  refine ⟨h1, h2, fun j hj hjl e => h3 ?_⟩
  rw [← e, List.getD_eq_getElem?_getD, List.getElem?_eq_getElem hjl]
  exact List.mem_of_getElem? (i := j) (by rw [List.getElem?_take, if_pos hj, List.getElem?_eq_getElem hjl]; rfl)
theorem want_ok {old : List Int} {k0 s0 l0 o0 n0 : Int} {ps : List Int} (he : old = k0 :: s0 :: l0 :: o0 :: n0 :: ps) (hps : ps.length = 32) (h0 : ¬ k0 = 0) (hc : chkL old = true) (wh : Nat → Bool) (sz : Int) (n : Nat) (hn : ∀ k : Nat, k < n → (k : Int) * 128 < sz) (hn32 : n ≤ 32)
    (qs : List Int) (hqs : qs.length = 32) (hq : ∀ k, k < 32 → qs.getD k 0 = wantQ old wh n k) : ∀ k, k < 32 → okAt false sz qs k = true := by
  intro k hk
  have hl : old.length = 37 := by rw [he]; simp [hps]
  have hgo : ∀ j, old.getD (5 + j) 0 = ps.getD j 0 := fun j => by rw [he, show 5 + j = j + 5 by omega]; rfl
  have hok : ∀ j, j < 32 → okAt (k0 == 2) s0 ps j = true := by
    rw [he] at hc
    simp only [chkL, chk] at hc
    rw [if_neg h0] at hc
    simp only [Bool.and_eq_true, List.all_eq_true, List.mem_range] at hc
    exact hc.2
  have hnot : ∀ j i, i < 32 → wh j = true → tkn old wh j ≠ old.getD (5 + i) 0 := fun j i hi hw e => by
    have h1 := (tkn_bd hl wh j hw).2.2.2
    rw [e, hasP_at hi] at h1
    cases h1
  unfold okAt
  split
  · rfl
  · rename_i hne
    have hqk := hq k hk
    have hkn : k < n := by
      apply Classical.byContradiction
      intro hc
      unfold wantQ at hqk
      rw [if_neg (fun h => hc h.1), if_neg hc] at hqk
      exact hne hqk
    have hrange : 74 ≤ qs.getD k 0 ∧ qs.getD k 0 ≤ 1023 := by
      rw [hqk]
      unfold wantQ
      by_cases hw : wh k = true
      · rw [if_pos ⟨hkn, hw⟩]
        have h1 := tkn_bd hl wh k hw
        have h2 := pk_next hl wh (k + 1)
        omega
      · rw [if_neg (fun h => hw h.2), if_pos hkn, hgo]
        refine (ok_apart (hok k hk) ?_).2.1
        unfold wantQ at hqk
        rw [if_neg (fun h => hw h.2), if_pos hkn, hgo] at hqk
        rw [← hqk]; exact hne
    have hapart : ¬ qs.getD k 0 ∈ qs.take k := by
      intro hm
      obtain ⟨j, hj⟩ := List.getElem?_of_mem hm
      have hjk : j < k := by
        have := (List.getElem?_eq_some_iff.1 hj).1
        rw [List.length_take] at this
        omega
      rw [List.getElem?_take, if_pos hjk] at hj
      have e : qs.getD j 0 = qs.getD k 0 := by rw [List.getD_eq_getElem?_getD, hj]; rfl
      rw [hq j (by omega), hqk] at e
      have hne' : ¬ wantQ old wh n k = 0 := by rw [← hqk]; exact hne
      unfold wantQ at e hne'
      by_cases hwk : wh k = true <;> by_cases hwj : wh j = true
      · rw [if_pos ⟨by omega, hwj⟩, if_pos ⟨hkn, hwk⟩] at e
        have := tkn_lt hl wh hwj hwk hjk
        omega
      · rw [if_neg (fun h => hwj h.2), if_pos (show j < n by omega), if_pos ⟨hkn, hwk⟩] at e
        exact hnot k j (by omega) hwk e.symm
      · rw [if_pos ⟨by omega, hwj⟩, if_neg (fun h => hwk h.2), if_pos hkn] at e
        exact hnot j k (by omega) hwj e
      · rw [if_neg (fun h => hwk h.2), if_pos hkn, hgo] at hne'
        rw [if_neg (fun h => hwj h.2), if_pos (show j < n by omega), if_neg (fun h => hwk h.2), if_pos hkn, hgo, hgo] at e
        exact (ok_apart (hok k hk) hne').2.2 j hjk (by omega) e
    simp only [Bool.and_eq_true, decide_eq_true_eq, inB, Bool.not_eq_true', List.contains_eq_mem, decide_eq_false_iff_not]
    exact ⟨⟨hn k hkn, hrange⟩, hapart⟩
/-- the inode that shall be: another size -/
def nowL (old : List Int) (sz : Int) : List Int := old.set 1 sz
/-- what Next makes of it -/
def nextX (old : List Int) (wh : Nat → Bool) (sz : Int) (n : Nat) : List Int := XS old (X1 old (nowL old sz)) wh n
section
variable {old : List Int} {wh : Nat → Bool} {sz : Int} {n : Nat}
theorem XS_take (old X : List Int) (wh : Nat → Bool) : ∀ k, (XS old X wh k).take 5 = X.take 5
  | 0 => rfl
  | k + 1 => by
    unfold XS
    split
    · rw [List.take_set_of_le (by omega), XS_take old X wh k]
    · exact XS_take old X wh k
theorem nowL_len (hl : old.length = 37) : (nowL old sz).length = 37 := by rw [nowL, List.length_set, hl]
theorem nextX_len (hl : old.length = 37) : (nextX old wh sz n).length = 37 := by rw [nextX, XS_len, X1_len (nowL_len hl)]
theorem nextX_at (hl : old.length = 37) (h0 : old.getD 0 0 = 1) (hn : (n : Int) = blocksN sz) (hn32 : n ≤ 32) (k : Nat) (hk : k < 32) : (nextX old wh sz n).getD (5 + k) 0 = wantQ old wh n k := by
  have hnow := nowL_len (sz := sz) hl
  unfold nextX
  rw [XS_at old _ wh (X1_len hnow) n k hn32 hk]
  unfold wantQ
  have e : (X1 old (nowL old sz)).getD (5 + k) 0 = ptr1 old (nowL old sz) k := by rw [List.getD_eq_getElem?_getD, X1_at old hnow k hk]; rfl
  rw [e]
  have hd0 : (nowL old sz).getD 0 0 = 1 := by rw [nowL, List.getD_eq_getElem?_getD, List.getElem?_set_ne (by decide), ← List.getD_eq_getElem?_getD, h0]
  have hd1 : (nowL old sz).getD 1 0 = sz := by rw [nowL, List.getD_eq_getElem?_getD, List.getElem?_set_self (by omega)]; rfl
  have hd3 : (nowL old sz).getD 3 0 = old.getD 3 0 := by rw [nowL, List.getD_eq_getElem?_getD, List.getElem?_set_ne (by decide), ← List.getD_eq_getElem?_getD]
  have hb : blN (nowL old sz) = n := by unfold blN; rw [hd0, if_neg (by decide), hd1, hn]
  have hk2 : keeps old (nowL old sz) = true := by unfold keeps; rw [hd3, h0]; simp
  congr 1
  unfold ptr1
  rw [hb, hk2]
  by_cases c : k < n
  · rw [if_pos ⟨by omega, rfl⟩, if_pos c]
  · rw [if_neg (fun h => c (by omega)), if_neg c]
theorem nextX_hd (hl : old.length = 37) (h0 : old.getD 0 0 = 1) : (nextX old wh sz n).take 5 = (nowL old sz).take 5 := by
  unfold nextX
  rw [XS_take]
  have hd0 : (nowL old sz).getD 0 0 = 1 := by rw [nowL, List.getD_eq_getElem?_getD, List.getElem?_set_ne (by decide), ← List.getD_eq_getElem?_getD, h0]
  unfold X1 hdN
  rw [hd0, if_neg (by decide)]
  have : ((nowL old sz).take 5).length = 5 := by rw [List.length_take, nowL_len hl]; rfl
  rw [List.take_append_of_le_length (by omega), List.take_take]
  rfl
theorem next_keeps (hl : old.length = 37) (hc : chkL old = true) (h0 : old.getD 0 0 = 1) (hs : 0 ≤ sz ∧ sz ≤ 4096) (hn : (n : Int) = blocksN sz) (hn32 : n ≤ 32) :
    nextM old (nowL old sz) (pkS old wh n).1 (pkS old wh n).2.1 = some (nextX old wh sz n, goneL old (nextX old wh sz n)) := by
  obtain ⟨k0, s0, l0, o0, n0, ps, he, hps⟩ := five hl
  have hk0 : k0 = 1 := by rw [he] at h0; exact h0
  subst hk0
  have hd0 : (nowL old sz).getD 0 0 = 1 := by rw [nowL, List.getD_eq_getElem?_getD, List.getElem?_set_ne (by decide), ← List.getD_eq_getElem?_getD, h0]
  have hd1 : (nowL old sz).getD 1 0 = sz := by rw [nowL, List.getD_eq_getElem?_getD, List.getElem?_set_self (by omega)]; rfl
  have hb : blN (nowL old sz) = n := by unfold blN; rw [hd0, if_neg (by decide), hd1, hn]
  have hg := XS_goP old (X1 old (nowL old sz)) wh (blN (nowL old sz)) n (by rw [hb]; omega) hn32
  have hck : chkL (nextX old wh sz n) = true := by
    have hX := nextX_hd (wh := wh) (sz := sz) (n := n) hl h0
    have hXl := nextX_len (wh := wh) (sz := sz) (n := n) hl
    have hat := nextX_at (wh := wh) (sz := sz) (n := n) hl h0 hn hn32
    obtain ⟨a0, a1, a2, a3, a4, qs, hXe, hqs⟩ := five hXl
    have ha : a0 = 1 ∧ a1 = sz ∧ a2 = l0 ∧ a3 = o0 ∧ a4 = n0 := by
      rw [hXe, nowL, he] at hX
      simpa using hX
    obtain ⟨rfl, rfl, rfl, rfl, rfl⟩ := ha
    rw [hXe] at hat ⊢
    have hq : ∀ k, k < 32 → qs.getD k 0 = wantQ old wh n k := fun k hk => by rw [← hat k hk, show 5 + k = k + 5 by omega]; rfl
    have hall := want_ok he hps (by decide) hc wh a1 n (fun k hk => by
      have hk2 : (k : Int) + 1 ≤ blocksN a1 := by omega
      unfold blocksN at hk2
      split at hk2 <;> omega) hn32 qs hqs hq
    rw [he] at hc
    simp only [chkL, chk] at hc ⊢
    rw [if_neg (by decide)] at hc ⊢
    simp only [Bool.and_eq_true, List.all_eq_true, List.mem_range, hdr, inB, decide_eq_true_eq] at hc ⊢
    obtain ⟨⟨⟨⟨⟨⟨b1, b2⟩, b3⟩, b4⟩, b5⟩, b6⟩, b7⟩ := hc
    exact ⟨⟨⟨⟨⟨⟨b1, hs⟩, b3⟩, b4⟩, b5⟩, rfl⟩, hall⟩
  unfold nextM
  rw [if_pos ⟨hc, (pk_len old wh n).1⟩, hg, Option.bind_some]
  show (if chkL (nextX old wh sz n) = true then some (nextX old wh sz n, goneL old (nextX old wh sz n)) else none) = _
  rw [if_pos hck]
end
/-- what is wanted, behind i pieces -/
def wfT (ps ts : List Int) (k : Int) (v : Int) : Nat → Int
  | 0 => v
  | i + 1 => if ps.getD i 0 = k then ts.getD i 0 else wfT ps ts k v i
theorem wfT_app (ps ts qs us : List Int) (k v : Int) (hl : ps.length = ts.length) : ∀ i, i ≤ ps.length → wfT (ps ++ qs) (ts ++ us) k v i = wfT ps ts k v i
  | 0, _ => rfl
  | i + 1, h => by
    unfold wfT
    rw [wfT_app ps ts qs us k v hl i (by omega), List.getD_eq_getElem?_getD, List.getElem?_append_left (by omega), ← List.getD_eq_getElem?_getD, List.getD_eq_getElem?_getD (l := ts ++ us), List.getElem?_append_left (by omega), ← List.getD_eq_getElem?_getD]
theorem wfT_is (old : List Int) (wh : Nat → Bool) (k : Nat) (v : Int) : ∀ n, wfT (pkS old wh n).1 (pkS old wh n).2.1 k v (pkS old wh n).1.length = if k < n ∧ wh k = true then tkn old wh k else v
  | 0 => by rw [if_neg (by omega)]; rfl
  | n + 1 => by
    have ih := wfT_is old wh k v n
    have hl := (pk_len old wh n).1
    unfold pkS
    by_cases hw : wh n = true
    · rw [if_pos hw]
      simp only [List.length_append, List.length_cons, List.length_nil]
      unfold wfT
      rw [wfT_app _ _ _ _ _ _ hl _ (Nat.le_refl _), ih, List.getD_eq_getElem?_getD, List.getElem?_append_right (Nat.le_refl _), Nat.sub_self, List.getD_eq_getElem?_getD, List.getElem?_append_right (by omega), hl, Nat.sub_self]
      simp only [List.getElem?_cons_zero, Option.getD_some]
      by_cases he : k = n
      · subst he
        rw [if_pos rfl, if_pos ⟨by omega, hw⟩]
        rfl
      · rw [if_neg (by omega)]
        by_cases c : k < n ∧ wh k = true
        · rw [if_pos c, if_pos ⟨by omega, c.2⟩]
        · rw [if_neg c, if_neg (fun h => c ⟨by omega, h.2⟩)]
    · rw [if_neg hw, ih]
      by_cases c : k < n ∧ wh k = true
      · rw [if_pos c, if_pos ⟨by omega, c.2⟩]
      · rw [if_neg c, if_neg (fun h => by
          by_cases he : k = n
          · subst he; exact hw h.2
          · exact c ⟨by omega, h.2⟩)]
end Go.Proofs.Ytgfhepfikphliaa.Al
