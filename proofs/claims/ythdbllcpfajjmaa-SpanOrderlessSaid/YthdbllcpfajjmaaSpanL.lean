/-
  Plain law of stretches: a list in order is the one list in order that has its places; what Norm's growing makes; what Cut makes.
-/
import Derived.Test.YthdbllcpfajjmaaSpan2
namespace Go.Proofs.Ythdbllcpfajjmaa.Sp
set_option linter.unusedVariables false

abbrev Ls := List (Int × Int)
def inP (p : Int × Int) (x : Int) : Bool := decide (p.1 ≤ x) && decide (x < p.1 + p.2)
def inB (l : Ls) (x : Int) : Bool := l.any fun p => inP p x
theorem inB_nil (x : Int) : inB [] x = false := rfl
theorem inB_cons (p : Int × Int) (r : Ls) (x : Int) : inB (p :: r) x = (inP p x || inB r x) := rfl
theorem inB_append (a b : Ls) (x : Int) : inB (a ++ b) x = (inB a x || inB b x) := by simp [inB]
theorem inP_yes {p : Int × Int} {x : Int} (h : p.1 ≤ x) (k : x < p.1 + p.2) : inP p x = true := by simp [inP, h, k]
theorem inP_lo {p : Int × Int} {x : Int} (h : x < p.1) : inP p x = false := by
  have : ¬ p.1 ≤ x := by omega
  simp [inP, this]
theorem inP_hi {p : Int × Int} {x : Int} (h : p.1 + p.2 ≤ x) : inP p x = false := by
  have : ¬ x < p.1 + p.2 := by omega
  simp [inP, this]
theorem inP_iff {p : Int × Int} {x : Int} : inP p x = true ↔ p.1 ≤ x ∧ x < p.1 + p.2 := by simp [inP]
theorem inB_iff {l : Ls} {x : Int} : inB l x = true ↔ ∃ p ∈ l, p.1 ≤ x ∧ x < p.1 + p.2 := by
  unfold inB
  rw [List.any_eq_true]
  constructor
  · rintro ⟨p, hp, h⟩; exact ⟨p, hp, inP_iff.1 h⟩
  · rintro ⟨p, hp, h⟩; exact ⟨p, hp, inP_iff.2 h⟩
theorem inB_perm {a b : Ls} (h : a.Perm b) (x : Int) : inB a x = inB b x := by
  rw [Bool.eq_iff_iff, inB_iff, inB_iff]
  constructor
  · rintro ⟨p, hp, k⟩; exact ⟨p, h.mem_iff.1 hp, k⟩
  · rintro ⟨p, hp, k⟩; exact ⟨p, h.mem_iff.2 hp, k⟩

/-- all are stretches -/
def AllSt (l : Ls) : Prop := ∀ p ∈ l, St p.1 p.2
instance (l : Ls) : Decidable (AllSt l) := by unfold AllSt; infer_instance
theorem AllSt.tail {p : Int × Int} {r : Ls} (h : AllSt (p :: r)) : AllSt r := fun q hq => h q (by simp [hq])
theorem AllSt.head {p : Int × Int} {r : Ls} (h : AllSt (p :: r)) : St p.1 p.2 := h p (by simp)
theorem AllSt.sz {l : Ls} (h : AllSt l) : ∀ p ∈ l, SZ p := fun p hp => .inl (h p hp)
theorem AllSt.append {a b : Ls} (h : AllSt a) (k : AllSt b) : AllSt (a ++ b) := fun p hp => by
  rcases List.mem_append.1 hp with hp | hp
  · exact h p hp
  · exact k p hp
theorem AllSt.perm {a b : Ls} (h : AllSt a) (k : a.Perm b) : AllSt b := fun p hp => h p (k.mem_iff.2 hp)

theorem ordM_cons {last : Int} {p : Int × Int} {r : Ls} (hp : St p.1 p.2) : ordM last (p :: r) = true ↔ last < p.1 ∧ ordM (p.1 + p.2) r = true := by
  unfold St at hp
  have e : ordM last (p :: r) = if p.1 + p.2 = 0 ∨ p.1 ≤ last then false else ordM (p.1 + p.2) r := rfl
  rw [e]
  by_cases h : p.1 + p.2 = 0 ∨ p.1 ≤ last
  · rw [if_pos h]
    constructor
    · intro k; cases k
    · intro k; omega
  · rw [if_neg h]
    constructor
    · intro k; exact ⟨by omega, k⟩
    · exact fun k => k.2
theorem ordM_low : ∀ {l : Ls} {last : Int}, AllSt l → ordM last l = true → ∀ p ∈ l, last < p.1
  | [], _, _, _, p, hp => by simp at hp
  | q :: r, last, hs, ho, p, hp => by
    have h := (ordM_cons hs.head).1 ho
    rcases List.mem_cons.1 hp with rfl | hp
    · exact h.1
    · have := ordM_low hs.tail h.2 p hp
      have := hs.head
      unfold St at this
      omega
theorem ordM_le {last last' : Int} (h : last' ≤ last) : ∀ {l : Ls}, AllSt l → ordM last l = true → ordM last' l = true
  | [], _, _ => rfl
  | p :: r, hs, ho => by
    have := (ordM_cons hs.head).1 ho
    exact (ordM_cons hs.head).2 ⟨by omega, this.2⟩
theorem inB_low {l : Ls} {last x : Int} (hs : AllSt l) (ho : ordM last l = true) (hx : x ≤ last) : inB l x = false := by
  cases h : inB l x
  · rfl
  · obtain ⟨p, hp, h1, h2⟩ := inB_iff.1 h
    have := ordM_low hs ho p hp
    omega
/-- in order, a list is known by its places -/
theorem ord_eq : ∀ {a b : Ls} {la lb : Int}, AllSt a → AllSt b → ordM la a = true → ordM lb b = true → (∀ x, inB a x = inB b x) → a = b
  | [], [], _, _, _, _, _, _, _ => rfl
  | [], q :: s, _, _, _, hb, _, _, h => by
    have := h q.1
    have hq := hb.head
    unfold St at hq
    rw [inB_nil, inB_cons, inP_yes (Int.le_refl _) (by omega)] at this
    cases this
  | p :: r, [], _, _, ha, _, _, _, h => by
    have := h p.1
    have hq := ha.head
    unfold St at hq
    rw [inB_nil, inB_cons, inP_yes (Int.le_refl _) (by omega)] at this
    cases this
  | p :: r, q :: s, la, lb, ha, hb, oa, ob, h => by
    have h1 := (ordM_cons ha.head).1 oa
    have h2 := (ordM_cons hb.head).1 ob
    have hp := ha.head
    have hq := hb.head
    unfold St at hp hq
    have e1 : p.1 = q.1 := by
      have x1 := h p.1
      have x2 := h q.1
      rw [inB_cons, inP_yes (Int.le_refl _) (by omega), inB_cons] at x1
      rw [inB_cons, inB_cons, inP_yes (p := q) (Int.le_refl _) (by omega)] at x2
      by_cases hlt : p.1 < q.1
      · rw [inP_lo hlt, inB_low hb.tail h2.2 (by omega)] at x1
        cases x1
      · by_cases hgt : q.1 < p.1
        · rw [inP_lo hgt, inB_low ha.tail h1.2 (by omega)] at x2
          cases x2
        · omega
    have e2 : p.2 = q.2 := by
      by_cases hlt : p.2 < q.2
      · have x1 := h (p.1 + p.2)
        rw [inB_cons, inP_hi (Int.le_refl _), inB_low ha.tail h1.2 (Int.le_refl _), inB_cons, inP_yes (by omega) (by omega)] at x1
        cases x1
      · by_cases hgt : q.2 < p.2
        · have x1 := h (q.1 + q.2)
          rw [inB_cons, inP_yes (by omega) (by omega), inB_cons, inP_hi (Int.le_refl _), inB_low hb.tail h2.2 (Int.le_refl _)] at x1
          cases x1
        · omega
    have e : p = q := by
      obtain ⟨p1, p2⟩ := p
      obtain ⟨q1, q2⟩ := q
      simp at e1 e2
      rw [e1, e2]
    subst e
    have ht : r = s := ord_eq ha.tail hb.tail h1.2 h2.2 fun x => by
      by_cases hx : x ≤ p.1 + p.2
      · rw [inB_low ha.tail h1.2 hx, inB_low hb.tail h2.2 hx]
      · have := h x
        rw [inB_cons, inB_cons, inP_hi (by omega)] at this
        simpa using this
    rw [ht]

/-! ### growing -/
def grow : Int → Int → Ls → Ls
  | a, b, [] => [(a, b - a)]
  | a, b, p :: r => if p.1 ≤ b then grow a (max b (p.1 + p.2)) r else (a, b - a) :: grow p.1 (p.1 + p.2) r
def normM : Ls → Ls
  | [] => []
  | p :: r => grow p.1 (p.1 + p.2) r
def Asc (l : Ls) : Prop := l.Pairwise fun p q => p.1 ≤ q.1
theorem grow_spec : ∀ (l : Ls) (a b : Int), 0 ≤ a → a < b → b ≤ 33554432 → AllSt l → Asc l → (∀ p ∈ l, a ≤ p.1) →
    AllSt (grow a b l) ∧ (∀ last, last < a → ordM last (grow a b l) = true) ∧ ∀ x, inB (grow a b l) x = (inP (a, b - a) x || inB l x)
  | [], a, b, h0, h1, h2, _, _, _ => by
    have hst : St (a, b - a).1 (a, b - a).2 := by unfold St; simp only; omega
    refine ⟨fun p hp => by simp [grow] at hp; subst hp; exact hst, fun last hl => ?_, fun x => by simp [grow, inB]⟩
    exact (ordM_cons (r := []) hst).2 ⟨hl, rfl⟩
  | p :: r, a, b, h0, h1, h2, hs, hasc, hlow => by
    have hp := hs.head
    unfold St at hp
    have hap := hlow p (by simp)
    unfold grow
    by_cases hpb : p.1 ≤ b
    · rw [if_pos hpb]
      obtain ⟨k1, k2, k3⟩ := grow_spec r a (max b (p.1 + p.2)) h0 (by omega) (by omega) hs.tail (List.pairwise_cons.1 hasc).2 fun q hq => hlow q (by simp [hq])
      refine ⟨k1, k2, fun x => ?_⟩
      rw [k3, inB_cons, ← Bool.or_assoc]
      congr 1
      rw [Bool.eq_iff_iff, Bool.or_eq_true, inP_iff, inP_iff, inP_iff]
      simp only
      omega
    · rw [if_neg hpb]
      have hle : ∀ q ∈ r, p.1 ≤ q.1 := (List.pairwise_cons.1 hasc).1
      obtain ⟨k1, k2, k3⟩ := grow_spec r p.1 (p.1 + p.2) hp.1 (by omega) hp.2.2 hs.tail (List.pairwise_cons.1 hasc).2 hle
      have hst : St (a, b - a).1 (a, b - a).2 := by unfold St; simp only; omega
      refine ⟨fun q hq => ?_, fun last hl => (ordM_cons hst).2 ⟨hl, k2 _ (by simp only; omega)⟩, fun x => ?_⟩
      · rcases List.mem_cons.1 hq with rfl | hq
        · exact hst
        · exact k1 q hq
      · rw [inB_cons, k3, inB_cons, show p.1 + p.2 - p.1 = p.2 by omega]
theorem norm_spec {l : Ls} (hs : AllSt l) (ha : Asc l) : AllSt (normM l) ∧ ordM (-1) (normM l) = true ∧ ∀ x, inB (normM l) x = inB l x := by
  cases l with
  | nil => exact ⟨fun p hp => by simp [normM] at hp, rfl, fun x => rfl⟩
  | cons p r =>
    have hp := hs.head
    unfold St at hp
    obtain ⟨k1, k2, k3⟩ := grow_spec r p.1 (p.1 + p.2) hp.1 (by omega) hp.2.2 hs.tail (List.pairwise_cons.1 ha).2 (List.pairwise_cons.1 ha).1
    refine ⟨k1, k2 _ (by omega), fun x => ?_⟩
    show inB (grow _ _ _) x = _
    rw [k3, inB_cons, show p.1 + p.2 - p.1 = p.2 by omega]
/-- the list in order of all places -/
def nf (l : Ls) : Ls := normM (l.mergeSort fun p q => decide (p.1 ≤ q.1))
theorem sort_asc (l : Ls) : Asc (l.mergeSort fun p q => decide (p.1 ≤ q.1)) := by
  have := List.pairwise_mergeSort (le := fun p q : Int × Int => decide (p.1 ≤ q.1)) (fun a b c h k => by simp at *; omega) (fun a b => by simp; omega) l
  exact this.imp (by simp)
theorem nf_spec {l : Ls} (hs : AllSt l) : AllSt (nf l) ∧ ordM (-1) (nf l) = true ∧ ∀ x, inB (nf l) x = inB l x := by
  have hp := List.mergeSort_perm l fun p q => decide (p.1 ≤ q.1)
  obtain ⟨k1, k2, k3⟩ := norm_spec (hs.perm hp.symm) (sort_asc l)
  exact ⟨k1, k2, fun x => (k3 x).trans (inB_perm hp x)⟩
theorem nf_of {l d : Ls} (hs : AllSt l) (hp : d.Perm l) (ha : Asc d) : normM d = nf l := by
  obtain ⟨k1, k2, k3⟩ := norm_spec (hs.perm hp.symm) ha
  obtain ⟨m1, m2, m3⟩ := nf_spec hs
  exact ord_eq k1 m1 k2 m2 fun x => by rw [k3, m3, inB_perm hp x]
theorem nf_eq {l d : Ls} (hs : AllSt l) (hd : AllSt d) (ho : ordM (-1) d = true) (h : ∀ x, inB d x = inB l x) : nf l = d := by
  obtain ⟨m1, m2, m3⟩ := nf_spec hs
  exact ord_eq m1 hd m2 ho fun x => by rw [m3, h]
theorem nf_same {l d : Ls} (hs : AllSt l) (hd : AllSt d) (h : ∀ x, inB l x = inB d x) : nf l = nf d := by
  obtain ⟨m1, m2, m3⟩ := nf_spec hd
  exact nf_eq hs m1 m2 fun x => by rw [m3, h]
theorem nf_nf {l : Ls} (hs : AllSt l) : nf (nf l) = nf l := by
  obtain ⟨m1, m2, m3⟩ := nf_spec hs
  exact nf_eq m1 m1 m2 fun _ => rfl

/-! ### how long -/
theorem grow_len : ∀ (l : Ls) (a b : Int), (grow a b l).length ≤ l.length + 1
  | [], a, b => by simp [grow]
  | p :: r, a, b => by
    unfold grow
    split
    · have := grow_len r a (max b (p.1 + p.2)); simp; omega
    · have := grow_len r p.1 (p.1 + p.2); simp; omega
theorem norm_len (l : Ls) : (normM l).length ≤ l.length := by
  cases l with
  | nil => simp [normM]
  | cons p r => exact grow_len r _ _
theorem nf_len (l : Ls) : (nf l).length ≤ l.length := by
  have := norm_len (l.mergeSort fun p q => decide (p.1 ≤ q.1))
  rwa [List.length_mergeSort] at this

/-! ### cutting -/
theorem atM_eq (n : Int) (p : Int × Int) : atM n p = p.1 + min p.2 n := by unfold atM; omega
theorem cut_zero : ∀ {l : Ls}, AllSt l → cutM 0 l = ([], l)
  | [], _ => rfl
  | p :: r, h => by
    have hp := h.head
    unfold St at hp
    have e : atM 0 p = p.1 := by unfold atM; omega
    have h1 : fstM 0 p = [] := by unfold fstM; rw [e, if_neg (by omega)]
    have h2 : sndM 0 p = [p] := by unfold sndM; rw [e, if_pos (by omega), show p.1 + p.2 - p.1 = p.2 by omega]
    simp only [cutM]
    rw [e, h1, h2, show (0 : Int) - (p.1 - p.1) = 0 by omega, cut_zero h.tail]
    rfl
theorem cut_big {n : Int} {p : Int × Int} {r : Ls} (hp : St p.1 p.2) (h : p.2 ≤ n) : cutM n (p :: r) = (p :: (cutM (n - p.2) r).1, (cutM (n - p.2) r).2) := by
  unfold St at hp
  have e : atM n p = p.1 + p.2 := by unfold atM; omega
  have h1 : fstM n p = [p] := by unfold fstM; rw [e, if_pos (by omega), show p.1 + p.2 - p.1 = p.2 by omega]
  have h2 : sndM n p = [] := by unfold sndM; rw [e, if_neg (by omega)]
  simp only [cutM]
  rw [e, h1, h2, show n - (p.1 + p.2 - p.1) = n - p.2 by omega]
  rfl
theorem cut_small {n : Int} {p : Int × Int} {r : Ls} (hs : AllSt (p :: r)) (h0 : 0 < n) (h : n < p.2) : cutM n (p :: r) = ([(p.1, n)], (p.1 + n, p.2 - n) :: r) := by
  have hp := hs.head
  unfold St at hp
  have e : atM n p = p.1 + n := by unfold atM; omega
  have h1 : fstM n p = [(p.1, n)] := by unfold fstM; rw [e, if_pos (by omega), show p.1 + n - p.1 = n by omega]
  have h2 : sndM n p = [(p.1 + n, p.2 - n)] := by unfold sndM; rw [e, if_pos (by omega), show p.1 + p.2 - (p.1 + n) = p.2 - n by omega]
  simp only [cutM]
  rw [e, h1, h2, show n - (p.1 + n - p.1) = 0 by omega, cut_zero hs.tail]
  rfl
theorem sum_nonneg {l : Ls} (h : AllSt l) : 0 ≤ sumP l := by
  induction l with
  | nil => simp [sumP]
  | cons p r ih =>
    have hp := h.head
    unfold St at hp
    have := ih h.tail
    simp only [sumP]
    omega
/-- what is cut off, and what is left: in order, the sums, all places; what is cut off lies ahead of what is left -/
theorem cut_spec : ∀ {l : Ls} {last n : Int}, AllSt l → ordM last l = true → 0 ≤ n → n ≤ sumP l →
    AllSt (cutM n l).1 ∧ AllSt (cutM n l).2 ∧ ordM last (cutM n l).1 = true ∧ ordM last (cutM n l).2 = true ∧ sumP (cutM n l).1 = n ∧ sumP (cutM n l).2 = sumP l - n ∧
      (∀ x, (inB (cutM n l).1 x || inB (cutM n l).2 x) = inB l x) ∧ (∀ p ∈ (cutM n l).1, ∀ q ∈ (cutM n l).2, p.1 + p.2 ≤ q.1)
  | [], last, n, hs, ho, h0, h1 => by
    simp only [sumP] at h1
    obtain rfl : n = 0 := by omega
    simp [cutM, ordM, sumP, inB, AllSt]
  | p :: r, last, n, hs, ho, h0, h1 => by
    have hp := hs.head
    have hp' := hp
    unfold St at hp'
    have hc := (ordM_cons hp).1 ho
    by_cases hbig : p.2 ≤ n
    · rw [cut_big hp hbig]
      simp only [sumP] at h1
      obtain ⟨k1, k2, k3, k4, k5, k6, k7, k8⟩ := cut_spec (l := r) (last := p.1 + p.2) (n := n - p.2) hs.tail hc.2 (by omega) (by omega)
      refine ⟨fun q hq => ?_, k2, (ordM_cons hp).2 ⟨hc.1, k3⟩, ordM_le (by omega) k2 k4, by simp only [sumP, k5]; omega, by simp only [sumP, k6]; omega, fun x => ?_, fun a ha b hb => ?_⟩
      · rcases List.mem_cons.1 hq with rfl | hq
        · exact hp
        · exact k1 q hq
      · simp only [inB_cons]
        rw [Bool.or_assoc, k7]
      · rcases List.mem_cons.1 ha with rfl | ha
        · have := ordM_low k2 k4 b hb
          omega
        · exact k8 a ha b hb
    · by_cases hz : n = 0
      · subst hz
        rw [cut_zero hs]
        exact ⟨fun q hq => by simp at hq, hs, rfl, ho, rfl, (Int.sub_zero _).symm, fun x => by simp [inB_nil], fun a ha => by simp at ha⟩
      · rw [cut_small hs (by omega) (by omega)]
        have s1 : St (p.1, n).1 (p.1, n).2 := by unfold St; simp only; omega
        have s2 : St (p.1 + n, p.2 - n).1 (p.1 + n, p.2 - n).2 := by unfold St; simp only; omega
        refine ⟨fun q hq => by simp at hq; subst hq; exact s1, fun q hq => ?_, (ordM_cons (r := []) s1).2 ⟨hc.1, rfl⟩, (ordM_cons s2).2 ⟨by simp only; omega, by simp only; rw [show p.1 + n + (p.2 - n) = p.1 + p.2 by omega]; exact hc.2⟩, by simp [sumP], by simp only [sumP]; omega, fun x => ?_, fun a ha b hb => ?_⟩
        · rcases List.mem_cons.1 hq with rfl | hq
          · exact s2
          · exact hs.tail q hq
        · simp only [inB_cons, inB_nil, Bool.or_false]
          rw [← Bool.or_assoc]
          congr 1
          rw [Bool.eq_iff_iff, Bool.or_eq_true, inP_iff, inP_iff, inP_iff]
          simp only
          omega
        · simp at ha
          subst ha
          rcases List.mem_cons.1 hb with rfl | hb
          · simp
          · have := ordM_low hs.tail hc.2 b hb
            simp only
            omega
/-- cut in two places is as cut once, and again -/
theorem cut_cut : ∀ {l : Ls} {last a b : Int}, AllSt l → ordM last l = true → 0 ≤ a → 0 ≤ b → a + b ≤ sumP l →
    (cutM b (cutM a l).2).2 = (cutM (a + b) l).2 ∧ ∀ x, (inB (cutM a l).1 x || inB (cutM b (cutM a l).2).1 x) = inB (cutM (a + b) l).1 x
  | [], last, a, b, hs, ho, h0, h1, h2 => by simp [cutM, inB]
  | p :: r, last, a, b, hs, ho, h0, h1, h2 => by
    have hp := hs.head
    have hp' := hp
    unfold St at hp'
    have hc := (ordM_cons hp).1 ho
    simp only [sumP] at h2
    by_cases hbig : p.2 ≤ a
    · rw [cut_big hp hbig, cut_big hp (show p.2 ≤ a + b by omega)]
      obtain ⟨k1, k2⟩ := cut_cut (l := r) (last := p.1 + p.2) (a := a - p.2) (b := b) hs.tail hc.2 (by omega) h1 (by omega)
      rw [show a - p.2 + b = a + b - p.2 by omega] at k1 k2
      refine ⟨k1, fun x => ?_⟩
      simp only [inB_cons]
      rw [Bool.or_assoc, k2]
    · by_cases hz : a = 0
      · subst hz
        rw [cut_zero hs, Int.zero_add]
        exact ⟨rfl, fun x => by simp [inB_nil]⟩
      · rw [cut_small hs (by omega) (by omega)]
        have s2 : St (p.1 + a, p.2 - a).1 (p.1 + a, p.2 - a).2 := by unfold St; simp only; omega
        have hs2 : AllSt ((p.1 + a, p.2 - a) :: r) := fun q hq => by
          rcases List.mem_cons.1 hq with rfl | hq
          · exact s2
          · exact hs.tail q hq
        by_cases hb2 : p.2 - a ≤ b
        · rw [cut_big (p := (p.1 + a, p.2 - a)) s2 hb2, cut_big hp (show p.2 ≤ a + b by omega)]
          simp only
          rw [show b - (p.2 - a) = a + b - p.2 by omega]
          refine ⟨rfl, fun x => ?_⟩
          simp only [inB_cons, inB_nil, Bool.or_false]
          rw [← Bool.or_assoc]
          congr 1
          rw [Bool.eq_iff_iff, Bool.or_eq_true, inP_iff, inP_iff, inP_iff]
          simp only
          omega
        · by_cases hz2 : b = 0
          · subst hz2
            rw [cut_zero hs2, Int.add_zero, cut_small hs (by omega) (by omega)]
            exact ⟨rfl, fun x => by simp [inB_nil]⟩
          · simp only
            rw [cut_small hs2 (by omega) (by simp only; omega), cut_small hs (show 0 < a + b by omega) (by omega)]
            simp only
            refine ⟨?_, fun x => ?_⟩
            · rw [show p.1 + a + b = p.1 + (a + b) by omega, show p.2 - a - b = p.2 - (a + b) by omega]
            · simp only [inB_cons, inB_nil, Bool.or_false]
              rw [Bool.eq_iff_iff, Bool.or_eq_true, inP_iff, inP_iff, inP_iff]
              simp only
              omega

/-! ### place by place -/
def cnt (f : Int → Bool) : Nat → Nat
  | 0 => 0
  | n + 1 => cnt f n + if f (n : Int) then 1 else 0
theorem cnt_congr {f g : Int → Bool} : ∀ n : Nat, (∀ x : Int, 0 ≤ x → x < n → f x = g x) → cnt f n = cnt g n
  | 0, _ => rfl
  | n + 1, h => by
    simp only [cnt]
    rw [cnt_congr n fun x h0 h1 => h x h0 (by omega), h n (by omega) (by omega)]
theorem cnt_le (f : Int → Bool) : ∀ n : Nat, cnt f n ≤ n
  | 0 => Nat.le_refl _
  | n + 1 => by
    have := cnt_le f n
    simp only [cnt]
    split <;> omega
theorem cnt_or {f g : Int → Bool} (h : ∀ x, f x = true → g x = false) : ∀ n, cnt (fun x => f x || g x) n = cnt f n + cnt g n
  | 0 => rfl
  | n + 1 => by
    simp only [cnt]
    rw [cnt_or h n]
    by_cases hf : f n = true
    · simp [hf, h n hf]
      omega
    · simp [hf]
      omega
theorem cnt_one {p : Int × Int} (h : 0 ≤ p.1) (hn : 0 ≤ p.2) : ∀ n : Nat, (cnt (inP p) n : Int) = max 0 (min (n : Int) (p.1 + p.2) - p.1)
  | 0 => by simp only [cnt]; omega
  | n + 1 => by
    simp only [cnt]
    have ih := cnt_one h hn n
    cases hi : inP p n
    · have : ¬ (p.1 ≤ n ∧ n < p.1 + p.2) := fun k => by rw [inP_iff.2 k] at hi; cases hi
      simp only [Bool.false_eq_true, if_false]
      omega
    · have := inP_iff.1 hi
      simp only [if_true]
      omega
/-- the sum of a list in order is how many places it has -/
theorem sum_cnt : ∀ {l : Ls} {last : Int} {n : Nat}, AllSt l → ordM last l = true → (∀ p ∈ l, p.1 + p.2 ≤ n) → (cnt (inB l) n : Int) = sumP l
  | [], _, n, _, _, _ => by
    have : ∀ n, cnt (inB []) n = 0 := fun n => by
      induction n with
      | zero => rfl
      | succ n ih => simp [cnt, ih, inB]
    simp [this, sumP]
  | p :: r, last, n, hs, ho, hb => by
    have hp := hs.head
    have hp' := hp
    unfold St at hp'
    have hc := (ordM_cons hp).1 ho
    have e : cnt (inB (p :: r)) n = cnt (inP p) n + cnt (inB r) n := by
      rw [← cnt_or (fun x hx => ?_)]
      · rfl
      · have := inP_iff.1 hx
        exact inB_low hs.tail hc.2 (by omega)
    rw [e, Int.natCast_add, cnt_one hp'.1 (by omega), sum_cnt hs.tail hc.2 fun q hq => hb q (by simp [hq])]
    have := hb p (by simp)
    simp only [sumP]
    omega
/-- an end of a list that has the places of another lies no further -/
theorem ends_le {a b : Ls} {n : Int} (ha : AllSt a) (hb : ∀ p ∈ b, p.1 + p.2 ≤ n) (h : ∀ x, inB a x = inB b x) : ∀ p ∈ a, p.1 + p.2 ≤ n := by
  intro p hp
  have hst := ha p hp
  unfold St at hst
  have := h (p.1 + p.2 - 1)
  rw [inB_iff.2 ⟨p, hp, by omega, by omega⟩] at this
  obtain ⟨q, hq, h1, h2⟩ := inB_iff.1 this.symm
  have := hb q hq
  omega
end Go.Proofs.Ythdbllcpfajjmaa.Sp
