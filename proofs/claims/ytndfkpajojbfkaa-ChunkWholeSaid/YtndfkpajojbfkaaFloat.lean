/-
  Whole numbers as floats: below 2^53 they are held exactly; sums, products, comparisons and the way back go as for integers.
-/
import Derived.Laws.FloatArith
import Derived.Laws.ComplexArith
namespace Go.Proofs.Ytndfkpajojbfkaa.Fl
open Ieee
set_option linter.unusedVariables false

/-- the word of a sign and a whole number -/
def can (s : Bool) (n : Nat) : Nat := double.nearest s n 0
/-- 'x' holds the whole number 'a', its sign bit is 's' -/
def Rep (x : Nat) (s : Bool) (a : Int) : Prop := (∃ k : Nat, k ≤ 1074 ∧ double.read x = .number s (a.natAbs * 2 ^ k) (-(k : Int))) ∧ (a ≠ 0 → s = decide (a < 0)) ∧ x = can s a.natAbs

theorem log_lt {n : Nat} (h0 : n ≠ 0) (h : n < 2 ^ 53) : n.log2 ≤ 52 := by
  have := (Nat.log2_lt h0).2 h
  omega
theorem log_shift {n : Nat} (h0 : n ≠ 0) (k : Nat) : (n * 2 ^ k).log2 = n.log2 + k := by
  have h1 := Nat.log2_self_le h0
  have h2 := @Nat.lt_log2_self n
  have hp : 0 < 2 ^ k := Nat.two_pow_pos k
  have hne : n * 2 ^ k ≠ 0 := by
    have := Nat.mul_pos (Nat.pos_of_ne_zero h0) hp
    omega
  have a1 : n.log2 + k ≤ (n * 2 ^ k).log2 := by
    rw [Nat.le_log2 hne, Nat.pow_add]
    exact Nat.mul_le_mul_right _ h1
  have a2 : (n * 2 ^ k).log2 < n.log2 + 1 + k := by
    rw [Nat.log2_lt hne, Nat.pow_add]
    exact Nat.mul_lt_mul_of_pos_right h2 hp
  omega
set_option maxRecDepth 10000
theorem cut_exact (s : Bool) (n e : Nat) (d : Nat) (h0 : n ≠ 0) (h : n = d * 2 ^ e) : Toward.even.cut s n e = d := by
  have hd : d ≠ 0 := by
    intro hd
    rw [hd, Nat.zero_mul] at h
    exact h0 h
  have hl : n.log2 = d.log2 + e := by rw [h, log_shift hd]
  unfold Toward.cut
  rw [Nat.min_eq_left (by omega), Nat.shiftLeft_eq, Nat.one_mul]
  have hp : 0 < 2 ^ e := Nat.two_pow_pos e
  have h1 : n / 2 ^ e = d := by rw [h, Nat.mul_div_cancel _ hp]
  have h2 : n % 2 ^ e = 0 := by rw [h, Nat.mul_mod_left]
  simp only [h1, h2]
  simp

theorem kept_eq {n : Nat} (h0 : n ≠ 0) (h : n < 2 ^ 53) (k : Nat) (s : Bool) :
    Toward.even.cut s ((n * 2 ^ k) <<< ((-(k : Int)) - ((n.log2 : Int) - 52)).toNat) (((n.log2 : Int) - 52) - (-(k : Int))).toNat = n * 2 ^ (52 - n.log2) := by
  have hl := log_lt h0 h
  have hne : ∀ e, n * 2 ^ e ≠ 0 := fun e => by
    have := Nat.mul_pos (Nat.pos_of_ne_zero h0) (Nat.two_pow_pos e)
    omega
  refine cut_exact s _ _ _ ?_ ?_
  · rw [Nat.shiftLeft_eq, Nat.mul_assoc, ← Nat.pow_add]
    exact hne _
  · rw [Nat.shiftLeft_eq, Nat.mul_assoc, Nat.mul_assoc, ← Nat.pow_add, ← Nat.pow_add]
    congr 2
    omega

theorem leastPlace_eq : double.leastPlace = -1074 := by decide
theorem binade_eq : double.binade = 2 ^ 52 := by rfl
theorem infRung_eq : double.infRung = 2047 * 2 ^ 52 := by rfl
theorem signWeight_eq : double.signWeight = 2 ^ 63 := by rfl

theorem man_bd {n : Nat} (h0 : n ≠ 0) (h : n < 2 ^ 53) : 2 ^ 52 ≤ n * 2 ^ (52 - n.log2) ∧ n * 2 ^ (52 - n.log2) < 2 ^ 53 := by
  have hl := log_lt h0 h
  have h1 := Nat.log2_self_le h0
  have h2 := @Nat.lt_log2_self n
  have hp : 0 < 2 ^ (52 - n.log2) := Nat.two_pow_pos _
  constructor
  · calc 2 ^ 52 = 2 ^ n.log2 * 2 ^ (52 - n.log2) := by rw [← Nat.pow_add]; congr 1; omega
      _ ≤ _ := Nat.mul_le_mul_right _ h1
  · calc n * 2 ^ (52 - n.log2) < 2 ^ (n.log2 + 1) * 2 ^ (52 - n.log2) := Nat.mul_lt_mul_of_pos_right h2 hp
      _ = 2 ^ 53 := by rw [← Nat.pow_add]; congr 1; omega

theorem nearest_eq {n : Nat} (h0 : n ≠ 0) (h : n < 2 ^ 53) (k : Nat) (s : Bool) :
    double.nearest s (n * 2 ^ k) (-(k : Int)) = double.word s ((n.log2 + 1022) * 2 ^ 52 + n * 2 ^ (52 - n.log2)) := by
  have hl := log_lt h0 h
  have hb := man_bd h0 h
  have hne : n * 2 ^ k ≠ 0 := by
    have := Nat.mul_pos (Nat.pos_of_ne_zero h0) (Nat.two_pow_pos k)
    omega
  unfold Format.nearest
  rw [if_neg hne, log_shift h0, leastPlace_eq, binade_eq, infRung_eq]
  have hf : double.fractionBits = 52 := rfl
  rw [hf]
  have hlast : max (-(k : Int) + ((n.log2 + k : Nat) : Int) - (52 : Nat)) (-1074) = (n.log2 : Int) - 52 := by omega
  simp only [hlast]
  rw [kept_eq h0 h, show ((n.log2 : Int) - 52 - -1074).toNat = n.log2 + 1022 by omega, Nat.min_eq_left]
  have h2 := hb.2
  generalize n * 2 ^ (52 - n.log2) = m at *
  omega
theorem nearest_can {n : Nat} (h : n < 2 ^ 53) (k : Nat) (s : Bool) : double.nearest s (n * 2 ^ k) (-(k : Int)) = can s n := by
  unfold can
  by_cases h0 : n = 0
  · subst h0
    simp [Format.nearest]
  · rw [nearest_eq h0 h]
    have := nearest_eq h0 h 0 s
    simp at this
    rw [this]

theorem read_can {n : Nat} (h : n < 2 ^ 53) (s : Bool) : ∃ k : Nat, k ≤ 1074 ∧ double.read (can s n) = .number s (n * 2 ^ k) (-(k : Int)) := by
  by_cases h0 : n = 0
  · subst h0
    refine ⟨1074, Nat.le_refl _, ?_⟩
    cases s <;> decide +kernel
  · refine ⟨52 - n.log2, by omega, ?_⟩
    have hl := log_lt h0 h
    have hb := man_bd h0 h
    have he : can s n = double.word s ((n.log2 + 1022) * 2 ^ 52 + n * 2 ^ (52 - n.log2)) := by
      have := nearest_eq h0 h 0 s
      simp at this
      exact this
    rw [he]
    have hm := hb
    generalize n * 2 ^ (52 - n.log2) = m at *
    generalize n.log2 = l at *
    have hr : (l + 1022) * 2 ^ 52 + m < 2 ^ 63 := by omega
    unfold Format.read Format.word
    rw [leastPlace_eq, binade_eq, infRung_eq, signWeight_eq]
    have hneg : ((if s = true then 2 ^ 63 + ((l + 1022) * 2 ^ 52 + m) else (l + 1022) * 2 ^ 52 + m) / 2 ^ 63 % 2 == 1) = s := by
      cases s
      · simp
        omega
      · simp
        omega
    have hmod : (if s = true then 2 ^ 63 + ((l + 1022) * 2 ^ 52 + m) else (l + 1022) * 2 ^ 52 + m) % 2 ^ 63 = (l + 1022) * 2 ^ 52 + m := by
      cases s
      · simp
        omega
      · simp
        omega
    simp only [hneg, hmod]
    rw [if_neg (by omega), if_pos (by omega)]
    congr 1
    · omega
    · omega

theorem rep_can {a : Int} (h : a.natAbs < 2 ^ 53) {s : Bool} (hs : a ≠ 0 → s = decide (a < 0)) : Rep (can s a.natAbs) s a := ⟨read_can h s, hs, rfl⟩
/-- a whole number's float -/
def fz (a : Int) : Nat := Go.floatOfInt .f64 a
theorem fz_can (a : Int) : fz a = can (decide (a < 0)) a.natAbs := rfl
theorem rep_fz {a : Int} (h : a.natAbs < 2 ^ 53) : Rep (fz a) (decide (a < 0)) a := by
  rw [fz_can]
  exact rep_can h fun _ => rfl
theorem rep_eq {x : Nat} {s : Bool} {a : Int} (h : Rep x s a) (h0 : a ≠ 0 ∨ s = false) : x = fz a := by
  rw [fz_can, h.2.2]
  rcases h0 with h0 | h0
  · rw [h.2.1 h0]
  · by_cases ha : a = 0
    · subst ha; rw [h0]; rfl
    · rw [h.2.1 ha]

theorem signed_eq {a : Int} {s : Bool} (hs : a ≠ 0 → s = decide (a < 0)) (k e : Nat) : signed s (a.natAbs * 2 ^ k) e = a * 2 ^ (k + e) := by
  unfold signed
  rw [Nat.shiftLeft_eq, Nat.mul_assoc, ← Nat.pow_add]
  by_cases h0 : a = 0
  · subst h0
    simp
  · rw [hs h0]
    push_cast
    by_cases hn : a < 0
    · simp only [hn, decide_true, if_true]
      rw [← Int.neg_mul]
      congr 1
      omega
    · simp only [hn, decide_false, Bool.false_eq_true, if_false]
      congr 1
      omega

theorem pow_pos (k : Nat) : (0 : Int) < 2 ^ k := Int.pow_pos (by decide)
theorem rep_sum {x y : Nat} {s t : Bool} {a b : Int} (hx : Rep x s a) (hy : Rep y t b) (h : (a + b).natAbs < 2 ^ 53) :
    (double.read x).sum (double.read y) = some (.number (if a + b = 0 then s && t else decide (a + b < 0)) ((a + b).natAbs * 2 ^ (max hx.1.choose hy.1.choose)) (-((max hx.1.choose hy.1.choose : Nat) : Int))) := by
  obtain ⟨hk, hx1⟩ := hx.1.choose_spec
  obtain ⟨hk', hy1⟩ := hy.1.choose_spec
  generalize hx.1.choose = k at *
  generalize hy.1.choose = k' at *
  rw [hx1, hy1]
  unfold Datum.sum
  simp only
  have hb : min (-(k : Int)) (-(k' : Int)) = -((max k k' : Nat) : Int) := by omega
  rw [hb, signed_eq hx.2.1, signed_eq hy.2.1, show k + (-(k : Int) - -((max k k' : Nat) : Int)).toNat = max k k' by omega, show k' + (-(k' : Int) - -((max k k' : Nat) : Int)).toNat = max k k' by omega, ← Int.add_mul]
  generalize max k k' = K
  have hp := pow_pos K
  congr 2
  · by_cases h0 : a + b = 0
    · simp [h0]
    · have hne : (a + b) * 2 ^ K ≠ 0 := Int.mul_ne_zero h0 (by omega)
      rw [if_neg hne, if_neg h0]
      by_cases hn : a + b < 0
      · simp [hn, Int.mul_neg_of_neg_of_pos hn hp]
      · have := Int.mul_nonneg (show 0 ≤ a + b by omega) (Int.le_of_lt hp)
        simp [hn, this]
  · rw [Int.natAbs_mul, Int.natAbs_pow]
    rfl
theorem add_rep {x y : Nat} {s t : Bool} {a b : Int} (hx : Rep x s a) (hy : Rep y t b) (h : (a + b).natAbs < 2 ^ 53) :
    Go.floatBits .add .f64 x y = some (can (if a + b = 0 then s && t else decide (a + b < 0)) (a + b).natAbs) := by
  show ((double.read x).sum (double.read y)).map double.write = _
  rw [rep_sum hx hy h]
  show some (double.nearest _ _ _) = _
  rw [nearest_can h]
theorem read_neg {x : Nat} {s : Bool} {a : Int} (hx : Rep x s a) : ∃ k : Nat, k ≤ 1074 ∧ (double.read x).opposite = .number (!s) ((-a).natAbs * 2 ^ k) (-(k : Int)) := by
  obtain ⟨k, hk, h⟩ := hx.1
  exact ⟨k, hk, by rw [h, Int.natAbs_neg]; rfl⟩
theorem lt_can {n : Nat} (h : n < 2 ^ 53) : can false n < 2 ^ 63 := by
  by_cases h0 : n = 0
  · subst h0; decide
  · have hl := log_lt h0 h
    have hb := man_bd h0 h
    have he : can false n = double.word false ((n.log2 + 1022) * 2 ^ 52 + n * 2 ^ (52 - n.log2)) := by
      have := nearest_eq h0 h 0 false
      simp at this
      exact this
    rw [he]
    show (n.log2 + 1022) * 2 ^ 52 + n * 2 ^ (52 - n.log2) < 2 ^ 63
    omega
theorem sub_rep {x y : Nat} {s t : Bool} {a b : Int} (hx : Rep x s a) (hy : Rep y t b) (hb : b.natAbs < 2 ^ 53) (h : (a - b).natAbs < 2 ^ 53) :
    Go.floatBits .sub .f64 x y = some (can (if a - b = 0 then s && !t else decide (a - b < 0)) (a - b).natAbs) := by
  have hn : ∀ y' : Nat, double.read y' = (double.read y).opposite → Go.floatBits .sub .f64 x y = Go.floatBits .add .f64 x y' := by
    intro y' e
    show ((double.read x).sum (double.read y).opposite).map double.write = ((double.read x).sum (double.read y')).map double.write
    rw [e]
  have hr : Rep (can (!t) (-b).natAbs) (!t) (-b) := by
    refine rep_can (by omega) fun h0 => ?_
    rw [hy.2.1 (by omega)]
    by_cases hb0 : b < 0
    · simp [hb0]
      omega
    · have hb1 : 0 < b := by omega
      simp [hb0, hb1]
  have e : double.read (can (!t) (-b).natAbs) = (double.read y).opposite := by
    rw [hy.2.2, Int.natAbs_neg]
    by_cases h0 : b.natAbs = 0
    · rw [h0]
      cases t <;> decide +kernel
    · have hl := log_lt h0 hb
      have hbb := man_bd h0 hb
      have he : ∀ s, can s b.natAbs = double.word s ((b.natAbs.log2 + 1022) * 2 ^ 52 + b.natAbs * 2 ^ (52 - b.natAbs.log2)) := by
        intro s
        have := nearest_eq h0 hb 0 s
        simp at this
        exact this
      rw [he, he]
      generalize b.natAbs * 2 ^ (52 - b.natAbs.log2) = m at *
      generalize b.natAbs.log2 = l at *
      have hr : (l + 1022) * 2 ^ 52 + m < 2 ^ 63 := by omega
      have hread : ∀ s, double.read (double.word s ((l + 1022) * 2 ^ 52 + m)) = .number s (2 ^ 52 + ((l + 1022) * 2 ^ 52 + m) % 2 ^ 52) (-1074 + ((((l + 1022) * 2 ^ 52 + m) / 2 ^ 52 - 1 : Nat) : Int)) := by
        intro s
        unfold Format.read Format.word
        rw [leastPlace_eq, binade_eq, infRung_eq, signWeight_eq]
        have hneg : ((if s = true then 2 ^ 63 + ((l + 1022) * 2 ^ 52 + m) else (l + 1022) * 2 ^ 52 + m) / 2 ^ 63 % 2 == 1) = s := by
          cases s
          · simp
            omega
          · simp
            omega
        have hmod : (if s = true then 2 ^ 63 + ((l + 1022) * 2 ^ 52 + m) else (l + 1022) * 2 ^ 52 + m) % 2 ^ 63 = (l + 1022) * 2 ^ 52 + m := by
          cases s
          · simp
            omega
          · simp
            omega
        simp only [hneg, hmod]
        rw [if_neg (by omega), if_pos (by omega)]
      rw [hread, hread]
      rfl
  rw [hn _ e, add_rep hx hr (by rw [← Int.sub_eq_add_neg]; exact h), ← Int.sub_eq_add_neg]
theorem mul_rep {x y : Nat} {s t : Bool} {a b : Int} (hx : Rep x s a) (hy : Rep y t b) (h : (a * b).natAbs < 2 ^ 53) :
    Go.floatBits .mul .f64 x y = some (can (s ^^ t) (a * b).natAbs) := by
  show ((double.read x).product (double.read y)).map double.write = _
  obtain ⟨k, _, hx1⟩ := hx.1
  obtain ⟨k', _, hy1⟩ := hy.1
  rw [hx1, hy1]
  show some (double.nearest (s ^^ t) (a.natAbs * 2 ^ k * (b.natAbs * 2 ^ k')) (-(k : Int) + -(k' : Int))) = _
  rw [show a.natAbs * 2 ^ k * (b.natAbs * 2 ^ k') = (a * b).natAbs * 2 ^ (k + k') by rw [Int.natAbs_mul, Nat.pow_add, Nat.mul_mul_mul_comm], show (-(k : Int) + -(k' : Int)) = -((k + k' : Nat) : Int) by omega, nearest_can h]
theorem order_rep {x y : Nat} {s t : Bool} {a b : Int} (hx : Rep x s a) (hy : Rep y t b) : FloatKind.f64.format.order x y = some (compare a b) := by
  show (double.read x).order (double.read y) = _
  obtain ⟨k, _, hx1⟩ := hx.1
  obtain ⟨k', _, hy1⟩ := hy.1
  rw [hx1, hy1]
  unfold Datum.order
  simp only
  have hb : min (-(k : Int)) (-(k' : Int)) = -((max k k' : Nat) : Int) := by omega
  rw [hb, signed_eq hx.2.1, signed_eq hy.2.1, show k + (-(k : Int) - -((max k k' : Nat) : Int)).toNat = max k k' by omega, show k' + (-(k' : Int) - -((max k k' : Nat) : Int)).toNat = max k k' by omega]
  generalize max k k' = K
  have hp := pow_pos K
  congr 1
  unfold compare instOrdInt compareOfLessAndEq
  have h1 : a * 2 ^ K < b * 2 ^ K ↔ a < b := Int.mul_lt_mul_right hp
  have h2 : a * 2 ^ K = b * 2 ^ K ↔ a = b := Int.mul_eq_mul_right_iff (by omega)
  simp only [h1, h2]
theorem toInt_rep {x : Nat} {s : Bool} {a : Int} (hx : Rep x s a) (h : a.natAbs < 2 ^ 53) : Go.floatToIntVal .f64 x .i64 = some a := by
  obtain ⟨k, _, hx1⟩ := hx.1
  unfold Go.floatToIntVal
  have hd : FloatKind.f64.decode x = .number s (a.natAbs * 2 ^ k) (-(k : Int)) := hx1
  rw [hd]
  have hc : Toward.zero.cut s ((a.natAbs * 2 ^ k) <<< (-(k : Int)).toNat) (- -(k : Int)).toNat = a.natAbs := by
    rw [show (-(k : Int)).toNat = 0 by omega, show (- -(k : Int)).toNat = k by omega, Nat.shiftLeft_zero]
    unfold Toward.cut
    by_cases h0 : a.natAbs = 0
    · rw [h0]; simp
    · rw [log_shift h0, Nat.min_eq_left (by omega), Nat.shiftLeft_eq, Nat.one_mul]
      simp
      exact Nat.mul_div_cancel _ (Nat.two_pow_pos k)
  have ht : (Datum.number s (a.natAbs * 2 ^ k) (-(k : Int))).toInt .zero = some a := by
    unfold Datum.toInt Datum.integral
    simp only [hc]
    have := signed_eq hx.2.1 0 0
    simp at this
    rw [this]
  rw [ht]
  simp only
  rw [if_pos]
  simp [IntKind.min, IntKind.max, IntKind.signed, IntKind.bits]
  omega
end Go.Proofs.Ytndfkpajojbfkaa.Fl
