/-
  Entries of a directory, in words: their cells; how names stand by bytes; names; lists that may be; where a name stands.
-/
import Derived.Test.YtifbbbphoponcaaWords
import Derived.Deep.MidRow
namespace Go.Proofs.Ytifbbbphoponcaa.Dr
open Go.RowKit Wd
set_option linter.unusedVariables false

abbrev En := ByteArray × Int
def goodE (e : En) : Prop := e.1.size ≤ 9223372036854775807 ∧ -9223372036854775808 ≤ e.2 ∧ e.2 ≤ 9223372036854775807
def ev (e : En) : Value := .agg #[.string e.1, .int .i64 e.2]
def ecs : List En → List Value
  | [] => []
  | e :: l => .string e.1 :: .int .i64 e.2 :: ecs l
theorem ecs_len : ∀ l : List En, (ecs l).length = l.length * 2
  | [] => rfl
  | e :: l => by simp only [ecs, List.length_cons, ecs_len l]; omega
theorem ecs_append : ∀ a b : List En, ecs (a ++ b) = ecs a ++ ecs b
  | [], b => rfl
  | e :: a, b => by simp [ecs, ecs_append a b]
theorem ecs_at : ∀ (l : List En) (i : Nat) (e : En), l[i]? = some e → (ecs l)[i * 2]? = some (.string e.1) ∧ (ecs l)[i * 2 + 1]? = some (.int .i64 e.2)
  | [], i, e, h => by simp at h
  | x :: l, 0, e, h => by
    simp at h
    subst h
    exact ⟨rfl, rfl⟩
  | x :: l, i + 1, e, h => by
    have := ecs_at l i e (by simpa using h)
    rw [show (i + 1) * 2 = i * 2 + 1 + 1 by omega]
    simpa [ecs] using this
theorem ecs_get : ∀ (l : List En) (j : Nat) (u : Value), (ecs l)[j]? = some u → ∃ i e, l[i]? = some e ∧ ((j = i * 2 ∧ u = .string e.1) ∨ (j = i * 2 + 1 ∧ u = .int .i64 e.2))
  | [], j, u, h => by simp [ecs] at h
  | x :: l, 0, u, h => by
    simp [ecs] at h
    exact ⟨0, x, rfl, .inl ⟨rfl, h.symm⟩⟩
  | x :: l, 1, u, h => by
    simp [ecs] at h
    exact ⟨0, x, rfl, .inr ⟨rfl, h.symm⟩⟩
  | x :: l, j + 2, u, h => by
    obtain ⟨i, e, hi, hj⟩ := ecs_get l j u (by simpa [ecs] using h)
    refine ⟨i + 1, e, by simpa using hi, ?_⟩
    rcases hj with ⟨h1, h2⟩ | ⟨h1, h2⟩
    · exact .inl ⟨by omega, h2⟩
    · exact .inr ⟨by omega, h2⟩
theorem ecs_take : ∀ (l : List En) (k : Nat), (ecs l).take (k * 2) = ecs (l.take k)
  | [], k => by simp [ecs]
  | x :: l, 0 => by simp [ecs]
  | x :: l, k + 1 => by
    rw [show (k + 1) * 2 = k * 2 + 1 + 1 by omega]
    simp [ecs, ecs_take l k]
theorem ecs_drop : ∀ (l : List En) (k : Nat), (ecs l).drop (k * 2) = ecs (l.drop k)
  | [], k => by simp [ecs]
  | x :: l, 0 => by simp [ecs]
  | x :: l, k + 1 => by
    rw [show (k + 1) * 2 = k * 2 + 1 + 1 by omega]
    simp [ecs, ecs_drop l k]
theorem ecs_one : ∀ (l : List En), ∀ u ∈ ecs l, u.oneCell' = true
  | [], u, h => by simp [ecs] at h
  | e :: l, u, h => by
    simp only [ecs, List.mem_cons] at h
    rcases h with rfl | rfl | h
    · rfl
    · rfl
    · exact ecs_one l u h
theorem ecs_inj : ∀ {a b : List En}, ecs a = ecs b → a = b
  | [], [], _ => rfl
  | [], _ :: _, h => by simp [ecs] at h
  | _ :: _, [], h => by simp [ecs] at h
  | x :: a, y :: b, h => by
    simp only [ecs, List.cons.injEq, Value.string.injEq, Value.int.injEq, true_and] at h
    rw [ecs_inj h.2.2]
    obtain ⟨x1, x2⟩ := x
    obtain ⟨y1, y2⟩ := y
    simp at h
    simp [h.1, h.2.1]

/-! ### names by bytes -/
theorem less_irrefl : ∀ a : List UInt8, Op.bytesLess a a = false
  | [] => rfl
  | x :: a => by simp [Op.bytesLess, less_irrefl a]
theorem less_trans : ∀ {a b c : List UInt8}, Op.bytesLess a b = true → Op.bytesLess b c = true → Op.bytesLess a c = true
  | [], [], _, h, _ => by simp [Op.bytesLess] at h
  | [], _ :: _, [], _, h => by simp [Op.bytesLess] at h
  | [], _ :: _, _ :: _, _, _ => by simp [Op.bytesLess]
  | _ :: _, [], _, h, _ => by simp [Op.bytesLess] at h
  | _ :: _, _ :: _, [], _, h => by simp [Op.bytesLess] at h
  | x :: a, y :: b, z :: c, h, k => by
    simp only [Op.bytesLess, Bool.or_eq_true, decide_eq_true_eq, Bool.and_eq_true, beq_iff_eq] at *
    rcases h with h | ⟨rfl, h⟩ <;> rcases k with k | ⟨rfl, k⟩
    · exact .inl (UInt8.lt_trans h k)
    · exact .inl h
    · exact .inl k
    · exact .inr ⟨rfl, less_trans h k⟩
theorem less_total : ∀ {a b : List UInt8}, Op.bytesLess a b = false → Op.bytesLess b a = false → a = b
  | [], [], _, _ => rfl
  | [], _ :: _, h, _ => by simp [Op.bytesLess] at h
  | _ :: _, [], _, h => by simp [Op.bytesLess] at h
  | x :: a, y :: b, h, k => by
    simp only [Op.bytesLess, Bool.or_eq_false_iff, decide_eq_false_iff_not, Bool.and_eq_false_iff, beq_eq_false_iff_ne, UInt8.not_lt] at *
    have e : x = y := UInt8.le_antisymm k.1 h.1
    subst e
    rw [less_total (h.2.resolve_left (by simp)) (k.2.resolve_left (by simp))]
def lt (a b : ByteArray) : Bool := Op.bytesLess a.toList b.toList
theorem toList_inj {a b : ByteArray} (h : a.toList = b.toList) : a = b := by
  rw [toList_data, toList_data] at h
  rw [← str_of a, ← str_of b, h]
/-- 'a == b' -/
def eqS (a b : ByteArray) : Bool := a.toList == b.toList
theorem eqS_iff {a b : ByteArray} : eqS a b = true ↔ a = b := by
  unfold eqS
  rw [beq_iff_eq]
  exact ⟨toList_inj, fun h => by rw [h]⟩
theorem eqS_self (a : ByteArray) : eqS a a = true := eqS_iff.2 rfl
theorem eqS_no {a b : ByteArray} (h : a ≠ b) : eqS a b = false := by
  cases k : eqS a b
  · rfl
  · exact absurd (eqS_iff.1 k) h
theorem lt_irrefl (a : ByteArray) : lt a a = false := less_irrefl _
theorem lt_trans {a b c : ByteArray} (h : lt a b = true) (k : lt b c = true) : lt a c = true := less_trans h k
theorem lt_total {a b : ByteArray} (h : lt a b = false) (k : lt b a = false) : a = b := toList_inj (less_total h k)
theorem lt_asymm {a b : ByteArray} (h : lt a b = true) : lt b a = false := by
  cases k : lt b a
  · rfl
  · have := lt_trans h k
    rw [lt_irrefl] at this
    cases this
/-- 'a <= b' -/
def le (a b : ByteArray) : Bool := Op.bytesLess a.toList b.toList || a.toList == b.toList
theorem le_not (a b : ByteArray) : le a b = !lt b a := by
  unfold le
  cases h : Op.bytesLess a.toList b.toList
  · by_cases e : a.toList = b.toList
    · have : a = b := toList_inj e
      subst this
      simp [lt_irrefl]
    · have : lt b a = true := by
        cases k : lt b a
        · exact absurd (less_total h k) e
        · rfl
      simp [e, this]
  · have := lt_asymm (a := a) (b := b) h
    simp [this]

/-! ### names, entries, lists -/
def ncB (x : Nat) : Bool := (decide (97 ≤ x) && decide (x ≤ 122)) || (decide (48 ≤ x) && decide (x ≤ 57)) || x == 46 || x == 95 || x == 45
def dot : ByteArray := ⟨#[46]⟩
def dots : ByteArray := ⟨#[46, 46]⟩
def nameB (s : ByteArray) : Bool := decide (1 ≤ s.size) && decide (s.size ≤ 20) && !(eqS s dot) && !(eqS s dots) && (List.range s.size).all (fun i => ncB (s.data.toList.getD i 0).toNat)
def mayB (e : En) : Bool := nameB e.1 && decide (1 ≤ e.2) && decide (e.2 < 48)
def okA (l : List En) (i : Nat) : Bool := mayB (l.getD i (ByteArray.empty, 0)) && (i == 0 || lt (l.getD (i - 1) (ByteArray.empty, 0)).1 (l.getD i (ByteArray.empty, 0)).1)
def okTo (l : List En) (n : Nat) : Bool := (List.range n).all (okA l)
def checkB (l : List En) : Bool := okTo l l.length && decide (l.length ≤ 64)
theorem okTo_succ (l : List En) (n : Nat) : okTo l (n + 1) = (okTo l n && okA l n) := by simp [okTo, List.range_succ]
theorem okTo_le {l : List En} {n m : Nat} (h : okTo l n = true) (hm : m ≤ n) : okTo l m = true := by
  rw [okTo, List.all_eq_true] at *
  intro x hx
  exact h x (List.mem_range.2 (by have := List.mem_range.1 hx; omega))
theorem okTo_no {l : List En} {n m : Nat} (h : okA l m = false) (hm : m < n) : okTo l n = false := by
  rw [okTo, List.all_eq_false]
  exact ⟨m, List.mem_range.2 hm, by simp [h]⟩
theorem getD_at {l : List En} {i : Nat} {e : En} (h : l[i]? = some e) (d : En) : l.getD i d = e := by
  rw [List.getD_eq_getElem?_getD, h]; rfl

def Srt (l : List En) : Prop := l.Pairwise fun a b => lt a.1 b.1 = true
theorem okTo_srt {l : List En} (h : okTo l l.length = true) : Srt l := by
  rw [okTo, List.all_eq_true] at h
  have step : ∀ i, i + 1 < l.length → ∀ a b, l[i]? = some a → l[i + 1]? = some b → lt a.1 b.1 = true := by
    intro i hi a b ha hb
    have := h (i + 1) (List.mem_range.2 hi)
    unfold okA at this
    rw [Nat.add_sub_cancel, getD_at ha, getD_at hb] at this
    simp only [Bool.and_eq_true, Bool.or_eq_true, beq_iff_eq] at this
    exact this.2.resolve_left (by omega)
  have far : ∀ d i, i + d + 1 < l.length → ∀ a b, l[i]? = some a → l[i + d + 1]? = some b → lt a.1 b.1 = true := by
    intro d
    induction d with
    | zero => intro i hi a b ha hb; exact step i hi a b ha hb
    | succ d ih =>
      intro i hi a b ha hb
      obtain ⟨c, hc⟩ : ∃ c, l[i + d + 1]? = some c := ⟨_, List.getElem?_eq_getElem (by omega)⟩
      exact lt_trans (ih i (by omega) a c ha hc) (step (i + d + 1) (by omega) c b hc hb)
  unfold Srt
  rw [List.pairwise_iff_getElem]
  intro i j hi hj hij
  have := far (j - i - 1) i (by omega) l[i] l[j] (List.getElem?_eq_getElem hi) (by rw [show i + (j - i - 1) + 1 = j by omega]; exact List.getElem?_eq_getElem hj)
  exact this
theorem okTo_of {l : List En} (hs : Srt l) (hm : ∀ e ∈ l, mayB e = true) : okTo l l.length = true := by
  rw [okTo, List.all_eq_true]
  intro i hi
  replace hi := List.mem_range.1 hi
  have ha : l[i]? = some l[i] := List.getElem?_eq_getElem hi
  unfold okA
  rw [getD_at ha, hm _ (List.getElem_mem hi), Bool.true_and]
  by_cases h0 : i = 0
  · simp [h0]
  · have hb : l[i - 1]? = some l[i - 1] := List.getElem?_eq_getElem (by omega)
    rw [getD_at hb]
    have := (List.pairwise_iff_getElem.1 hs) (i - 1) i (by omega) hi (by omega)
    simp [this]
theorem okTo_may {l : List En} (h : okTo l l.length = true) : ∀ e ∈ l, mayB e = true := by
  intro e he
  obtain ⟨i, hi⟩ := List.getElem?_of_mem he
  have hl : i < l.length := (List.getElem?_eq_some_iff.1 hi).1
  rw [okTo, List.all_eq_true] at h
  have := h i (List.mem_range.2 hl)
  unfold okA at this
  rw [getD_at hi, Bool.and_eq_true] at this
  exact this.1

/-! ### who has a name -/
def findV : List En → ByteArray → Int × Bool
  | [], _ => (0, false)
  | e :: l, s => if e.1 = s then (e.2, true) else findV l s
/-- how many stand ahead of a name -/
def pos (l : List En) (s : ByteArray) : Nat := l.countP fun e => lt e.1 s
def has (l : List En) (s : ByteArray) : Bool := l.any fun e => eqS e.1 s
theorem find_has : ∀ (l : List En) (s : ByteArray), (findV l s).2 = has l s
  | [], s => rfl
  | e :: l, s => by
    unfold findV has
    by_cases h : e.1 = s
    · simp [h, eqS_self]
    · rw [if_neg h, find_has l s]
      simp [eqS_no h, has]
theorem pos_le (l : List En) (s : ByteArray) : pos l s ≤ l.length := List.countP_le_length
/-- where the place of a name is, in a list that stands by bytes -/
theorem pos_spec : ∀ {l : List En}, Srt l → ∀ (s : ByteArray) (i : Nat) (e : En), l[i]? = some e → (lt e.1 s = decide (i < pos l s))
  | [], _, s, i, e, h => by simp at h
  | x :: l, hs, s, 0, e, h => by
    simp at h
    subst h
    unfold pos
    rw [List.countP_cons]
    cases hx : lt x.1 s
    · have : l.countP (fun e => lt e.1 s) = 0 := by
        rw [List.countP_eq_zero]
        intro y hy
        have hxy := (List.pairwise_cons.1 hs).1 y hy
        cases h : lt y.1 s
        · simp
        · rw [lt_trans hxy h] at hx
          cases hx
      simp [this]
    · simp
  | x :: l, hs, s, i + 1, e, h => by
    have ih := pos_spec (List.pairwise_cons.1 hs).2 s i e (by simpa using h)
    have hxe := (List.pairwise_cons.1 hs).1 e (List.mem_of_getElem? (by simpa using h))
    rw [ih]
    unfold pos
    rw [List.countP_cons]
    cases hx : lt x.1 s
    · have hn : lt e.1 s = false := by
        cases h : lt e.1 s
        · rfl
        · rw [lt_trans hxe h] at hx
          cases hx
      rw [hn] at ih
      have : ¬ i < pos l s := by simpa using ih.symm
      unfold pos at this
      rw [decide_eq_false this, eq_comm, decide_eq_false_iff_not]
      simp
      omega
    · simp
theorem has_at {l : List En} (hs : Srt l) (s : ByteArray) : has l s = (match l[pos l s]? with | some e => eqS e.1 s | none => false) := by
  cases h : has l s
  · cases hp : l[pos l s]? with
    | none => rfl
    | some e =>
      unfold has at h
      rw [List.any_eq_false] at h
      have := h e (List.mem_of_getElem? hp)
      simpa using this
  · unfold has at h
    rw [List.any_eq_true] at h
    obtain ⟨e, he, hes⟩ := h
    have hes : e.1 = s := eqS_iff.1 hes
    obtain ⟨i, hi⟩ := List.getElem?_of_mem he
    have hl : i < l.length := (List.getElem?_eq_some_iff.1 hi).1
    have h1 := pos_spec hs s i e hi
    rw [hes, lt_irrefl] at h1
    have h1 : ¬ i < pos l s := by simpa using h1.symm
    have : i = pos l s := by
      by_cases hlt : pos l s < i
      · obtain ⟨c, hc⟩ : ∃ c, l[pos l s]? = some c := ⟨_, List.getElem?_eq_getElem (by omega)⟩
        have h2 := pos_spec hs s (pos l s) c hc
        have h3 : lt c.1 e.1 = true := by
          have := (List.pairwise_iff_getElem.1 hs) (pos l s) i (by omega) hl hlt
          rw [List.getElem?_eq_getElem (by omega)] at hc
          rw [List.getElem?_eq_getElem hl] at hi
          injection hc with hc
          injection hi with hi
          rw [hc, hi] at this
          exact this
        rw [← hes, h3] at h2
        simp at h2
      · omega
    subst this
    rw [hi]
    exact (eqS_iff.2 hes).symm
/-- a list with an entry more -/
def ins (l : List En) (e : En) : List En := l.take (pos l e.1) ++ e :: l.drop (pos l e.1)
/-- a list without a name -/
def del (l : List En) (s : ByteArray) : List En := l.take (pos l s) ++ l.drop (pos l s + 1)
def addV (l : List En) (e : En) : List En × Int := if !mayB e then ([], 1) else if has l e.1 then ([], 6) else if 64 ≤ l.length then ([], 5) else (ins l e, 0)
def remV (l : List En) (s : ByteArray) : List En × Int := if has l s then (del l s, 0) else ([], 3)
end Go.Proofs.Ytifbbbphoponcaa.Dr
