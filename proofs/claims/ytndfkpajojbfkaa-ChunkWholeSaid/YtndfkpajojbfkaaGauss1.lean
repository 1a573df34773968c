/-
  Whole numbers' floats, as the walks ask for them.
-/
import Derived.Test.YtndfkpajojbfkaaFloat
import Derived.Test.YtndfkpajojbfkaaGauss0
import Derived.Laws.Cover3
namespace Go.Proofs.Ytndfkpajojbfkaa.Ga
open Fl Go.RowKit
set_option linter.unusedVariables false

def Sm (a : Int) : Prop := a.natAbs < 2 ^ 53
theorem Ft.sm {a : Int} (h : Ft a) : Sm a := by unfold Ft at h; unfold Sm; omega
theorem fz0 : fz 0 = 0 := by decide +kernel
theorem fzTop : fz 33554432 = 4719772409484279808 := by decide +kernel
theorem fzLow : fz (-33554432) = 13943144446339055616 := by decide +kernel
/-- a whole number, as a complex value -/
def cz (a b : Int) : Value := .complex .f64 (fz a) (fz b)
theorem cz00 : cz 0 0 = .complex .f64 0 0 := by unfold cz; rw [fz0]

theorem order_fz {a b : Int} (ha : Sm a) (hb : Sm b) : FloatKind.f64.format.order (fz a) (fz b) = some (compare a b) := order_rep (rep_fz ha) (rep_fz hb)
theorem cmp_eq {a b : Int} : (some (compare a b) == some Ordering.eq) = decide (a = b) := by
  rw [Bool.eq_iff_iff]
  simp
theorem cmp_lt {a b : Int} : (some (compare a b) == some Ordering.lt) = decide (a < b) := by
  rw [Bool.eq_iff_iff]
  simp [Int.compare_eq_lt]
theorem cmp_gt {a b : Int} : (some (compare a b) == some Ordering.gt) = decide (b < a) := by
  rw [Bool.eq_iff_iff]
  simp [Int.compare_eq_gt]
theorem geq_low {a : Int} (ha : Sm a) : (FloatKind.f64.format.order (fz a) 13943144446339055616 == some .gt || FloatKind.f64.format.order (fz a) 13943144446339055616 == some .eq) = decide (-33554432 ≤ a) := by
  rw [← fzLow, order_fz ha (by unfold Sm; decide), cmp_gt, cmp_eq, ← Bool.decide_or]
  congr 1
  apply propext
  omega
theorem leq_top {a : Int} (ha : Sm a) : (FloatKind.f64.format.order (fz a) 4719772409484279808 == some .lt || FloatKind.f64.format.order (fz a) 4719772409484279808 == some .eq) = decide (a ≤ 33554432) := by
  rw [← fzTop, order_fz ha (by unfold Sm; decide), cmp_lt, cmp_eq, ← Bool.decide_or]
  congr 1
  apply propext
  omega
theorem eql_fz {a b : Int} (ha : Sm a) (hb : Sm b) : (FloatKind.f64.format.order (fz a) (fz b) == some .eq) = decide (a = b) := by rw [order_fz ha hb, cmp_eq]
theorem fz_lt {a : Int} (ha : Sm a) (h0 : 0 ≤ a) : fz a < 2 ^ 63 := by
  rw [fz_can, show decide (a < 0) = false by simp; omega]
  exact lt_can ha
theorem fz_ge {a : Int} (ha : Sm a) (h0 : a < 0) : 2 ^ 63 ≤ fz a ∧ fz a < 2 ^ 64 := by
  rw [fz_can, show decide (a < 0) = true by simp; omega]
  have hn : a.natAbs ≠ 0 := by omega
  have hb := man_bd hn ha
  have hl := log_lt hn ha
  have he : can true a.natAbs = Ieee.double.word true ((a.natAbs.log2 + 1022) * 2 ^ 52 + a.natAbs * 2 ^ (52 - a.natAbs.log2)) := by
    have := nearest_eq hn ha 0 true
    simp at this
    exact this
  rw [he]
  show 2 ^ 63 ≤ 2 ^ 63 + ((a.natAbs.log2 + 1022) * 2 ^ 52 + a.natAbs * 2 ^ (52 - a.natAbs.log2)) ∧ 2 ^ 63 + ((a.natAbs.log2 + 1022) * 2 ^ 52 + a.natAbs * 2 ^ (52 - a.natAbs.log2)) < 2 ^ 64
  omega
/-- 'a + 0' is a -/
theorem add_zero_rep {x : Nat} {s : Bool} {a : Int} (hx : Rep x s a) (ha : Sm a) : floatBits .add .f64 x 0 = some (fz a) := by
  have h := add_rep hx (rep_fz (a := 0) (by decide)) (by rw [Int.add_zero]; exact ha)
  rw [fz0] at h
  rw [h, Int.add_zero, fz_can]
  congr 2
  by_cases h0 : a = 0
  · subst h0; simp
  · rw [if_neg h0]
theorem add_zero_fz {a : Int} (ha : Sm a) : floatBits .add .f64 (fz a) 0 = some (fz a) := add_zero_rep (rep_fz ha) ha
theorem conv_fz {a : Int} (ha : Sm a) : floatToIntVal .f64 (fz a) .i64 = some a := toInt_rep (rep_fz ha) ha
theorem neg_rep {x : Nat} {s : Bool} {a : Int} (hx : Rep x s a) (ha : Sm a) : Rep (can (!s) (-a).natAbs) (!s) (-a) := by
  refine rep_can (by unfold Sm at ha; omega) fun h0 => ?_
  rw [hx.2.1 (by omega)]
  by_cases hb0 : a < 0
  · simp [hb0]
    omega
  · have hb1 : 0 < a := by omega
    simp [hb0, hb1]
theorem xor_top {r : Nat} (h : r < 2 ^ 63) : r ^^^ 2 ^ 63 = 2 ^ 63 + r := by
  have e := Nat.two_pow_add_eq_or_of_lt h 1
  rw [Nat.mul_one] at e
  rw [e]
  apply Nat.eq_of_testBit_eq
  intro j
  rw [Nat.testBit_xor, Nat.testBit_or, Nat.testBit_two_pow]
  by_cases hj : 63 = j
  · subst hj
    rw [Nat.testBit_lt_two_pow h]
    rfl
  · simp [hj]
theorem xor_top' {r : Nat} (h : r < 2 ^ 63) : (2 ^ 63 + r) ^^^ 2 ^ 63 = r := by
  rw [← xor_top h, Nat.xor_assoc, Nat.xor_self, Nat.xor_zero]
theorem can_word {n : Nat} (h : n < 2 ^ 53) : ∃ r, r < 2 ^ 63 ∧ can false n = r ∧ can true n = 2 ^ 63 + r := by
  by_cases h0 : n = 0
  · subst h0
    exact ⟨0, by decide, by decide, by decide⟩
  · have hl := log_lt h0 h
    have hb := man_bd h0 h
    have he : ∀ s, can s n = Ieee.double.word s ((n.log2 + 1022) * 2 ^ 52 + n * 2 ^ (52 - n.log2)) := by
      intro s
      have := nearest_eq h0 h 0 s
      simp at this
      exact this
    exact ⟨(n.log2 + 1022) * 2 ^ 52 + n * 2 ^ (52 - n.log2), by omega, he false, he true⟩
theorem neg_can {n : Nat} (h : n < 2 ^ 53) (s : Bool) : Op.negFloat .f64 (can s n) = can (!s) n := by
  obtain ⟨r, hr, h1, h2⟩ := can_word h
  have e : ∀ x : Nat, Op.negFloat .f64 x = x ^^^ 2 ^ 63 := fun _ => rfl
  cases s
  · rw [e, h1, Bool.not_false, h2, xor_top hr]
  · rw [e, h2, Bool.not_true, h1, xor_top' hr]
theorem neg_of {x : Nat} {s : Bool} {a : Int} (hx : Rep x s a) (ha : Sm a) : Rep (Op.negFloat .f64 x) (!s) (-a) := by
  have h := neg_rep hx ha
  rw [hx.2.2, neg_can ha]
  rwa [Int.natAbs_neg] at h
theorem Rep.sum {x y : Nat} {s t : Bool} {a b : Int} (hx : Rep x s a) (hy : Rep y t b) (h : Sm (a + b)) : ∃ r u, floatBits .add .f64 x y = some r ∧ Rep r u (a + b) :=
  ⟨_, _, add_rep hx hy h, rep_can h fun h0 => by rw [if_neg h0]⟩
theorem Rep.diff {x y : Nat} {s t : Bool} {a b : Int} (hx : Rep x s a) (hy : Rep y t b) (hb : Sm b) (h : Sm (a - b)) : ∃ r u, floatBits .sub .f64 x y = some r ∧ Rep r u (a - b) :=
  ⟨_, _, sub_rep hx hy hb h, rep_can h fun h0 => by rw [if_neg h0]⟩
theorem Rep.prod {x y : Nat} {s t : Bool} {a b : Int} (hx : Rep x s a) (hy : Rep y t b) (h : Sm (a * b)) : ∃ r u, floatBits .mul .f64 x y = some r ∧ Rep r u (a * b) := by
  refine ⟨_, _, mul_rep hx hy h, rep_can h fun h0 => ?_⟩
  have ha : a ≠ 0 := fun e => h0 (by rw [e, Int.zero_mul])
  have hb : b ≠ 0 := fun e => h0 (by rw [e, Int.mul_zero])
  rw [hx.2.1 ha, hy.2.1 hb]
  by_cases h1 : a < 0 <;> by_cases h2 : b < 0
  · have := Int.mul_pos_of_neg_of_neg h1 h2
    simp [h1, h2]
    omega
  · have := Int.mul_neg_of_neg_of_pos h1 (show 0 < b by omega)
    simp [h1, h2, this]
  · have := Int.mul_neg_of_pos_of_neg (show 0 < a by omega) h2
    simp [h1, h2, this]
  · have := Int.mul_pos (show 0 < a by omega) (show 0 < b by omega)
    simp [h1, h2]
    omega
theorem prod_bd {a b : Int} (ha : Ft a) (hb : Ft b) : -1125899906842624 ≤ a * b ∧ a * b ≤ 1125899906842624 := mul_bd ha.1 ha.2 hb.1 hb.2
theorem add_cz {a b c d : Int} (ha : Ft a) (hb : Ft b) (hc : Ft c) (hd : Ft d) : ∃ x y s t, cSumBits .add .f64 (fz a) (fz b) (fz c) (fz d) = some (x, y) ∧ Rep x s (a + c) ∧ Rep y t (b + d) := by
  obtain ⟨x, s, e1, r1⟩ := Rep.sum (rep_fz ha.sm) (rep_fz hc.sm) (by unfold Ft at *; unfold Sm; omega)
  obtain ⟨y, t, e2, r2⟩ := Rep.sum (rep_fz hb.sm) (rep_fz hd.sm) (by unfold Ft at *; unfold Sm; omega)
  exact ⟨x, y, s, t, by unfold cSumBits; rw [e1, e2]; rfl, r1, r2⟩
theorem mul_cz {a b c d : Int} (ha : Ft a) (hb : Ft b) (hc : Ft c) (hd : Ft d) : ∃ x y s t, cMulBits (fz a) (fz b) (fz c) (fz d) = some (x, y) ∧ Rep x s (a * c - b * d) ∧ Rep y t (a * d + b * c) := by
  have b1 := prod_bd ha hc
  have b2 := prod_bd hb hd
  have b3 := prod_bd ha hd
  have b4 := prod_bd hb hc
  obtain ⟨ac, s1, e1, r1⟩ := Rep.prod (rep_fz ha.sm) (rep_fz hc.sm) (by unfold Sm; omega)
  obtain ⟨bd, s2, e2, r2⟩ := Rep.prod (rep_fz hb.sm) (rep_fz hd.sm) (by unfold Sm; omega)
  obtain ⟨ad, s3, e3, r3⟩ := Rep.prod (rep_fz ha.sm) (rep_fz hd.sm) (by unfold Sm; omega)
  obtain ⟨bc, s4, e4, r4⟩ := Rep.prod (rep_fz hb.sm) (rep_fz hc.sm) (by unfold Sm; omega)
  obtain ⟨x, s, e5, r5⟩ := Rep.diff r1 r2 (by unfold Sm; omega) (by unfold Sm; omega)
  obtain ⟨y, t, e6, r6⟩ := Rep.sum r3 r4 (by unfold Sm; omega)
  exact ⟨x, y, s, t, by unfold cMulBits; rw [e1, e2, e3, e4]; simp [e5, e6], r5, r6⟩
theorem add0_rep {x y : Nat} {s t : Bool} {a b : Int} (hx : Rep x s a) (hy : Rep y t b) (ha : Sm a) (hb : Sm b) : cSumBits .add .f64 x y 0 0 = some (fz a, fz b) := by
  unfold cSumBits
  rw [add_zero_rep hx ha, add_zero_rep hy hb]
  rfl
theorem integral_fz {a : Int} (ha : Sm a) : FloatKind.f64.encode ((FloatKind.f64.decode (fz a)).integral .zero) = fz a ∧ ∀ s t, FloatKind.f64.decode (fz a) ≠ .nan s t := by
  have hr := rep_fz ha
  obtain ⟨k, _, hx⟩ := hr.1
  have hd : FloatKind.f64.decode (fz a) = .number (decide (a < 0)) (a.natAbs * 2 ^ k) (-(k : Int)) := hx
  refine ⟨?_, fun s t h => by rw [hd] at h; cases h⟩
  rw [hd]
  unfold Ieee.Datum.integral
  have hc : Ieee.Toward.zero.cut (decide (a < 0)) ((a.natAbs * 2 ^ k) <<< (-(k : Int)).toNat) (- -(k : Int)).toNat = a.natAbs := by
    rw [show (-(k : Int)).toNat = 0 by omega, show (- -(k : Int)).toNat = k by omega, Nat.shiftLeft_zero]
    unfold Ieee.Toward.cut
    by_cases h0 : a.natAbs = 0
    · rw [h0]; simp
    · rw [log_shift h0, Nat.min_eq_left (by omega), Nat.shiftLeft_eq, Nat.one_mul]
      simp
      exact Nat.mul_div_cancel _ (Nat.two_pow_pos k)
  simp only [hc]
  rw [fz_can]
  rfl
theorem run_trunc {P : Program} {a : Int} (ha : Sm a) (w : World) : (Extern.MathFloor.toIntegral "math.archTrunc" .zero #[.float .f64 (fz a)]).run P w = .ok (.float .f64 (fz a)) w := by
  have h := integral_fz ha
  have key : ∀ d, (∀ s t, d ≠ .nan s t) → FloatKind.f64.decode (fz a) = d → Extern.MathFloor.toIntegral "math.archTrunc" .zero #[.float .f64 (fz a)] = pure (.float .f64 (FloatKind.f64.encode (d.integral .zero))) := by
    intro d hn hd
    unfold Extern.MathFloor.toIntegral
    generalize FloatKind.f64.decode = D at hd
    generalize fz a = x at hd
    conv => lhs; whnf
    rw [hd]
    cases d with
    | nan s t => exact absurd rfl (hn s t)
    | infinity s => rfl
    | number s m e => rfl
  rw [key _ h.2 rfl, h.1]
  rfl
theorem run_bits {P : Program} (b : Nat) (w : World) : (Extern.MathFloatBits.float64bits #[.float .f64 b]).run P w = .ok (.int .u64 b) w := rfl
end Go.Proofs.Ytndfkpajojbfkaa.Ga
