/-
  Whole complex numbers as pairs of integers: quotients to the nearest, what is left, what divides both. Plain Lean, no program in sight.
-/
import Derived.Laws.FloatArith
namespace Go.Proofs.Ytndfkpajojbfkaa.Ga
set_option linter.unusedVariables false

/-- rounded to the nearest, halves down -/
def nearZ (a b : Int) : Int := if (2 * a - b).tdiv (2 * b) * 2 * b < 2 * a - b then (2 * a - b).tdiv (2 * b) + 1 else (2 * a - b).tdiv (2 * b)
theorem near_spec (a b : Int) (hb : 0 < b) : 2 * (a - nearZ a b * b) ≤ b ∧ -b < 2 * (a - nearZ a b * b) := by
  unfold nearZ
  generalize hn : 2 * a - b = n
  generalize hd : 2 * b = d
  have hd0 : 0 < d := by omega
  have h1 := Int.tmod_add_mul_tdiv n d
  have h2 := Int.tmod_lt_of_pos n hd0
  have h3 : -d < n.tmod d := Int.lt_tmod_of_pos n hd0
  have h4 : n < 0 → n.tmod d ≤ 0 := fun h => by
    have := Int.tmod_nonneg (a := -n) d (by omega)
    rw [Int.neg_tmod] at this
    omega
  have h5 : 0 ≤ n → 0 ≤ n.tmod d := fun h => Int.tmod_nonneg d h
  generalize n.tdiv d = q at *
  generalize n.tmod d = r at *
  have h6 : q * 2 * b = d * q := by rw [← hd]; grind
  rw [h6]
  have h7 : 2 * (q * b) = d * q := by rw [← hd]; grind
  have h8 : 2 * ((q + 1) * b) = d * q + d := by rw [← hd]; grind
  split <;> omega
theorem near_zero (b : Int) (hb : 0 < b) : nearZ 0 b = 0 := by
  have := near_spec 0 b hb
  generalize nearZ 0 b = q at *
  by_cases h1 : q ≤ -1
  · have := Int.mul_le_mul_of_nonneg_right h1 (Int.le_of_lt hb); omega
  · by_cases h2 : 1 ≤ q
    · have := Int.mul_le_mul_of_nonneg_right h2 (Int.le_of_lt hb); omega
    · omega
theorem near_mul (k b : Int) (hb : 0 < b) : nearZ (k * b) b = k := by
  have h := near_spec (k * b) b hb
  generalize nearZ (k * b) b = q at *
  have e : k * b - q * b = (k - q) * b := by grind
  rw [e] at h
  by_cases h1 : k - q ≤ -1
  · have := Int.mul_le_mul_of_nonneg_right h1 (Int.le_of_lt hb); omega
  · by_cases h2 : 1 ≤ k - q
    · have := Int.mul_le_mul_of_nonneg_right h2 (Int.le_of_lt hb); omega
    · omega
def norm (a b : Int) : Int := a * a + b * b
def qx (a b c d : Int) : Int := nearZ (a * c + b * d) (norm c d)
def qy (a b c d : Int) : Int := nearZ (b * c - a * d) (norm c d)
def rx (a b c d : Int) : Int := a - (qx a b c d * c - qy a b c d * d)
def ry (a b c d : Int) : Int := b - (qx a b c d * d + qy a b c d * c)
theorem sq_nn (a : Int) : 0 ≤ a * a := by
  by_cases h : 0 ≤ a
  · exact Int.mul_nonneg h h
  · have : 0 ≤ (-a) * (-a) := Int.mul_nonneg (by omega) (by omega); rwa [Int.neg_mul_neg] at this
theorem norm_nn (a b : Int) : 0 ≤ norm a b := Int.add_nonneg (sq_nn a) (sq_nn b)
theorem sq_pos {a : Int} (h : a ≠ 0) : 0 < a * a := by
  have := sq_nn a
  have : a * a ≠ 0 := Int.mul_ne_zero h h
  omega
theorem norm_zero {a b : Int} (h : norm a b = 0) : a = 0 ∧ b = 0 := by
  have h1 := sq_nn a
  have h2 := sq_nn b
  unfold norm at h
  by_cases ha : a = 0
  · by_cases hb : b = 0
    · exact ⟨ha, hb⟩
    · have := sq_pos hb; omega
  · have := sq_pos ha; omega
theorem sq_le {a b : Int} (h1 : a ≤ b) (h2 : -b ≤ a) : a * a ≤ b * b := by
  have : 0 ≤ (b - a) * (b + a) := Int.mul_nonneg (by omega) (by omega)
  have e : (b - a) * (b + a) = b * b - a * a := by grind
  omega
theorem rest_norm (a b c d : Int) (hn : 0 < norm c d) : 2 * norm (rx a b c d) (ry a b c d) ≤ norm c d := by
  have h1 := near_spec (a * c + b * d) (norm c d) hn
  have h2 := near_spec (b * c - a * d) (norm c d) hn
  unfold rx ry
  change 2 * (a * c + b * d - qx a b c d * norm c d) ≤ norm c d ∧ -norm c d < 2 * (a * c + b * d - qx a b c d * norm c d) at h1
  change 2 * (b * c - a * d - qy a b c d * norm c d) ≤ norm c d ∧ -norm c d < 2 * (b * c - a * d - qy a b c d * norm c d) at h2
  generalize qx a b c d = x at *
  generalize qy a b c d = y at *
  have e : norm (a - (x * c - y * d)) (b - (x * d + y * c)) * norm c d = (a * c + b * d - x * norm c d) * (a * c + b * d - x * norm c d) + (b * c - a * d - y * norm c d) * (b * c - a * d - y * norm c d) := by
    unfold norm; grind
  generalize a * c + b * d - x * norm c d = r1 at *
  generalize b * c - a * d - y * norm c d = r2 at *
  generalize norm (a - (x * c - y * d)) (b - (x * d + y * c)) = N at *
  generalize norm c d = n at *
  have s1 := sq_le (a := 2 * r1) (b := n) (by omega) (by omega)
  have s2 := sq_le (a := 2 * r2) (b := n) (by omega) (by omega)
  have e1 : 2 * r1 * (2 * r1) = 4 * (r1 * r1) := by grind
  have e2 : 2 * r2 * (2 * r2) = 4 * (r2 * r2) := by grind
  have : (2 * N) * n ≤ n * n := by
    have e3 : 2 * N * n = 2 * (N * n) := by grind
    omega
  exact Int.le_of_mul_le_mul_right this hn
/-- 'g' divides 'x' -/
def Dv (g1 g2 x1 x2 : Int) : Prop := ∃ m1 m2 : Int, x1 = m1 * g1 - m2 * g2 ∧ x2 = m1 * g2 + m2 * g1
theorem Dv.self (a b : Int) : Dv a b a b := ⟨1, 0, by omega, by omega⟩
theorem Dv.zero (a b : Int) : Dv a b 0 0 := ⟨0, 0, by omega, by omega⟩
theorem Dv.trans {a b c d e f : Int} (h : Dv a b c d) (h' : Dv c d e f) : Dv a b e f := by
  obtain ⟨m, n, rfl, rfl⟩ := h
  obtain ⟨p, q, rfl, rfl⟩ := h'
  exact ⟨p * m - q * n, p * n + q * m, by grind, by grind⟩
/-- what divides both divides what is left, and back -/
theorem Dv.rest {g1 g2 a b c d x y : Int} (h : Dv g1 g2 a b) (h' : Dv g1 g2 c d) : Dv g1 g2 (a - (x * c - y * d)) (b - (x * d + y * c)) := by
  obtain ⟨m, n, rfl, rfl⟩ := h
  obtain ⟨p, q, rfl, rfl⟩ := h'
  exact ⟨m - (x * p - y * q), n - (x * q + y * p), by grind, by grind⟩
theorem Dv.back {g1 g2 a b c d x y : Int} (h : Dv g1 g2 (a - (x * c - y * d)) (b - (x * d + y * c))) (h' : Dv g1 g2 c d) : Dv g1 g2 a b := by
  obtain ⟨m, n, h1, h2⟩ := h
  obtain ⟨p, q, rfl, rfl⟩ := h'
  exact ⟨m + (x * p - y * q), n + (x * q + y * p), by grind, by grind⟩
theorem Dv.turnL {a b c d : Int} (h : Dv a b c d) : Dv (-b) a c d := by
  obtain ⟨m, n, rfl, rfl⟩ := h
  exact ⟨n, -m, by grind, by grind⟩
theorem Dv.turnR {a b c d : Int} (h : Dv a b c d) : Dv a b (-d) c := by
  obtain ⟨m, n, rfl, rfl⟩ := h
  exact ⟨-n, m, by grind, by grind⟩
theorem Dv.mul (a b c d : Int) : Dv c d (a * c - b * d) (a * d + b * c) := ⟨a, b, rfl, by grind⟩
/-- a number that another one divides leaves nothing -/
theorem rest_dv {a b c d : Int} (hn : 0 < norm c d) (h : Dv c d a b) : rx a b c d = 0 ∧ ry a b c d = 0 := by
  obtain ⟨m, n, rfl, rfl⟩ := h
  have e1 : (m * c - n * d) * c + (m * d + n * c) * d = m * norm c d := by unfold norm; grind
  have e2 : (m * d + n * c) * c - (m * c - n * d) * d = n * norm c d := by unfold norm; grind
  have q1 : qx (m * c - n * d) (m * d + n * c) c d = m := by unfold qx; rw [e1, near_mul _ _ hn]
  have q2 : qy (m * c - n * d) (m * d + n * c) c d = n := by unfold qy; rw [e2, near_mul _ _ hn]
  unfold rx ry
  rw [q1, q2]
  omega
theorem near_bd (a b : Int) (hb : 0 < b) : (nearZ a b).natAbs ≤ a.natAbs := by
  have h := near_spec a b hb
  generalize nearZ a b = q at *
  by_cases hq : 0 < q
  · have e : q * b = b + (q - 1) * b := by grind
    have h0 := Int.mul_le_mul_of_nonneg_left (show 1 ≤ b by omega) (show 0 ≤ q - 1 by omega)
    omega
  · by_cases hq' : q < 0
    · have e : q * b = - (b + (-q - 1) * b) := by grind
      have h0 := Int.mul_le_mul_of_nonneg_left (show 1 ≤ b by omega) (show 0 ≤ -q - 1 by omega)
      omega
    · omega
theorem part_le {a b B : Int} (hB : 0 ≤ B) (h : norm a b ≤ B * B) : a.natAbs ≤ B.natAbs ∧ b.natAbs ≤ B.natAbs := by
  have h1 := sq_nn a
  have h2 := sq_nn b
  unfold norm at h
  have key : ∀ x : Int, x * x ≤ B * B → x.natAbs ≤ B.natAbs := by
    intro x hx
    by_cases hc : x.natAbs ≤ B.natAbs
    · exact hc
    · have h5 := sq_le (a := B + 1) (b := (x.natAbs : Int)) (by omega) (by omega)
      have e : (x.natAbs : Int) * x.natAbs = x * x := Int.natAbs_mul_self
      have e3 : (B + 1) * (B + 1) = B * B + 2 * B + 1 := by grind
      omega
  exact ⟨key a (by omega), key b (by omega)⟩
theorem mul_bd {a b A B : Int} (ha : -A ≤ a) (ha' : a ≤ A) (hb : -B ≤ b) (hb' : b ≤ B) : -(A * B) ≤ a * b ∧ a * b ≤ A * B := by
  have h1 : 0 ≤ (A - a) * (B + b) := Int.mul_nonneg (by omega) (by omega)
  have h2 : 0 ≤ (A + a) * (B - b) := Int.mul_nonneg (by omega) (by omega)
  have h3 : 0 ≤ (A - a) * (B - b) := Int.mul_nonneg (by omega) (by omega)
  have h4 : 0 ≤ (A + a) * (B + b) := Int.mul_nonneg (by omega) (by omega)
  constructor
  · have : (A - a) * (B - b) + (A + a) * (B + b) = 2 * (A * B + a * b) := by grind
    omega
  · have : (A - a) * (B + b) + (A + a) * (B - b) = 2 * (A * B - a * b) := by grind
    omega
def Ft (a : Int) : Prop := -33554432 ≤ a ∧ a ≤ 33554432
theorem norm_bd {c d : Int} (hc : Ft c) (hd : Ft d) : norm c d ≤ 2251799813685248 := by
  have h1 := sq_le hc.2 (by have := hc.1; omega)
  have h2 := sq_le hd.2 (by have := hd.1; omega)
  unfold norm
  omega
theorem cauchy (a b c d : Int) : (a * c + b * d) * (a * c + b * d) ≤ norm a b * norm c d := by
  have h := sq_nn (a * d - b * c)
  have e : norm a b * norm c d = (a * c + b * d) * (a * c + b * d) + (a * d - b * c) * (a * d - b * c) := by unfold norm; grind
  omega
theorem near_fit {t n m : Int} (hn : 2 ≤ n) (hm : m ≤ 2251799813685248) (ht : t * t ≤ m * n) (hm0 : 0 ≤ m) : Ft (nearZ t n) := by
  have h := near_spec t n (by omega)
  generalize nearZ t n = x at *
  have key : ∀ y s : Int, 0 ≤ y → 2 * (y * n) ≤ 2 * s + n → s * s ≤ m * n → y ≤ 33554432 := by
    intro y s hy h1 h2
    by_cases hc : y ≤ 33554432
    · exact hc
    · have h3 : 33554433 * n ≤ y * n := Int.mul_le_mul_of_nonneg_right (by omega) (by omega)
      have h4 : 67108865 * n ≤ 2 * s := by omega
      have h5 := sq_le h4 (by omega)
      have e1 : 67108865 * n * (67108865 * n) = 4503599761588225 * n * n := by grind
      have e2 : 2 * s * (2 * s) = 4 * (s * s) := by grind
      have h6 : 4503599761588225 * n * n ≤ 4 * m * n := by
        have : 4 * m * n = 4 * (m * n) := by grind
        omega
      have h7 := Int.le_of_mul_le_mul_right h6 (by omega)
      omega
  by_cases hx : 0 ≤ x
  · have := key x t hx (by omega) ht
    exact ⟨by omega, this⟩
  · have e : (-x) * n = -(x * n) := by grind
    have e2 : (-t) * (-t) = t * t := by grind
    have := key (-x) (-t) (by omega) (by omega) (by omega)
    exact ⟨by omega, by omega⟩
theorem unit_cases {c d : Int} (h : norm c d = 1) : (c = 1 ∨ c = -1) ∧ d = 0 ∨ c = 0 ∧ (d = 1 ∨ d = -1) := by
  have h1 := part_le (a := c) (b := d) (B := 1) (by omega) (by omega)
  unfold norm at h
  have hc : c = 0 ∨ c = 1 ∨ c = -1 := by omega
  have hd : d = 0 ∨ d = 1 ∨ d = -1 := by omega
  rcases hc with rfl | rfl | rfl <;> rcases hd with rfl | rfl | rfl <;> simp_all
theorem Ft.neg {a : Int} (h : Ft a) : Ft (-a) := by unfold Ft at *; omega
theorem near_one (a : Int) : nearZ a 1 = a := by have := near_mul a 1 (by omega); rwa [Int.mul_one] at this
theorem q_fit {a b c d : Int} (ha : Ft a) (hb : Ft b) (hn : 0 < norm c d) : Ft (qx a b c d) ∧ Ft (qy a b c d) := by
  by_cases h1 : norm c d = 1
  · unfold qx qy
    rw [h1, near_one, near_one]
    unfold Ft at *
    rcases unit_cases h1 with ⟨rfl | rfl, rfl⟩ | ⟨rfl, rfl | rfl⟩ <;> omega
  · refine ⟨near_fit (by omega) (norm_bd ha hb) (cauchy a b c d) (norm_nn _ _), near_fit (m := norm b (-a)) (by omega) (norm_bd hb (Ft.neg ha)) ?_ (norm_nn _ _)⟩
    have := cauchy b (-a) c d
    have e : b * c + -a * d = b * c - a * d := by grind
    rwa [e] at this
theorem r_fit {a b c d : Int} (hc : Ft c) (hd : Ft d) (hn : 0 < norm c d) : Ft (rx a b c d) ∧ Ft (ry a b c d) := by
  have h := rest_norm a b c d hn
  have h2 := norm_bd hc hd
  have h3 := part_le (a := rx a b c d) (b := ry a b c d) (B := 33554432) (by omega) (by omega)
  unfold Ft
  omega
theorem norm_pos {c d : Int} (h : ¬ (c = 0 ∧ d = 0)) : 0 < norm c d := by
  have h1 := norm_nn c d
  have h2 : norm c d ≠ 0 := fun e => h (norm_zero e)
  omega
def gcdE (a b c d : Int) : Int × Int := if h : c = 0 ∧ d = 0 then (a, b) else gcdE c d (rx a b c d) (ry a b c d)
termination_by (norm c d).toNat
decreasing_by
  have h1 := rest_norm a b c d (norm_pos h)
  have h2 := norm_pos h
  have h3 := norm_nn (rx a b c d) (ry a b c d)
  omega
theorem gcd_stop (a b : Int) : gcdE a b 0 0 = (a, b) := by rw [gcdE]; simp
theorem gcd_step {a b c d : Int} (h : ¬ (c = 0 ∧ d = 0)) : gcdE a b c d = gcdE c d (rx a b c d) (ry a b c d) := by rw [gcdE]; simp [h]
theorem gcd_ind {P : Int → Int → Int → Int → Prop} (h0 : ∀ a b, P a b 0 0) (hs : ∀ a b c d, ¬ (c = 0 ∧ d = 0) → P c d (rx a b c d) (ry a b c d) → P a b c d) : ∀ a b c d, P a b c d := by
  have key : ∀ n : Nat, ∀ a b c d, (norm c d).toNat < n → P a b c d := by
    intro n
    induction n with
    | zero => intro a b c d h; omega
    | succ n ih =>
      intro a b c d h
      by_cases hz : c = 0 ∧ d = 0
      · obtain ⟨rfl, rfl⟩ := hz; exact h0 a b
      · refine hs a b c d hz (ih _ _ _ _ ?_)
        have h1 := rest_norm a b c d (norm_pos hz)
        have h2 := norm_pos hz
        have h3 := norm_nn (rx a b c d) (ry a b c d)
        omega
  intro a b c d
  exact key _ a b c d (Nat.lt_succ_self _)
theorem gcd_dv : ∀ a b c d : Int, Dv (gcdE a b c d).1 (gcdE a b c d).2 a b ∧ Dv (gcdE a b c d).1 (gcdE a b c d).2 c d := by
  refine gcd_ind (fun a b => ?_) (fun a b c d h ih => ?_)
  · rw [gcd_stop]; exact ⟨Dv.self _ _, Dv.zero _ _⟩
  · rw [gcd_step h]
    refine ⟨Dv.back (x := qx a b c d) (y := qy a b c d) ih.2 ih.1, ih.1⟩
theorem dv_gcd (k l : Int) : ∀ a b c d : Int, Dv k l a b → Dv k l c d → Dv k l (gcdE a b c d).1 (gcdE a b c d).2 := by
  refine gcd_ind (fun a b h1 h2 => ?_) (fun a b c d h ih h1 h2 => ?_)
  · rw [gcd_stop]; exact h1
  · rw [gcd_step h]
    exact ih h2 (Dv.rest h1 h2)
theorem gcd_fit : ∀ a b c d : Int, Ft a → Ft b → Ft c → Ft d → Ft (gcdE a b c d).1 ∧ Ft (gcdE a b c d).2 := by
  refine gcd_ind (fun a b h1 h2 _ _ => ?_) (fun a b c d h ih _ _ h3 h4 => ?_)
  · rw [gcd_stop]; exact ⟨h1, h2⟩
  · rw [gcd_step h]
    have := r_fit (a := a) (b := b) h3 h4 (norm_pos h)
    exact ih h3 h4 this.1 this.2
/-- turned, so that it lies above 0 -/
def quad (a b : Int) : Int × Int := if 0 < a ∧ 0 ≤ b ∨ a = 0 ∧ b = 0 then (a, b) else if b < 0 ∧ 0 ≤ a then (-b, a) else if a < 0 ∧ b ≤ 0 then (-a, -b) else (b, -a)
def turns (a b : Int) : Nat := if 0 < a ∧ 0 ≤ b ∨ a = 0 ∧ b = 0 then 0 else if b < 0 ∧ 0 ≤ a then 1 else if a < 0 ∧ b ≤ 0 then 2 else 3
theorem quad_step {a b : Int} (h : ¬ (a = 0 ∧ b = 0)) (h' : a ≤ 0 ∨ b < 0) : quad a b = quad (-b) a ∧ turns (-b) a < turns a b := by
  unfold quad turns
  constructor
  · (repeat' split) <;> first | (exfalso; omega) | (simp only [Prod.mk.injEq]; done) | (rw [Int.neg_neg])
  · (repeat' split) <;> omega
theorem quad_stop {a b : Int} (h : a = 0 ∧ b = 0 ∨ 0 < a ∧ 0 ≤ b) : quad a b = (a, b) := by
  unfold quad
  rw [if_pos (by omega)]
theorem quad_dv {k l a b : Int} (h : Dv k l a b) : Dv k l (quad a b).1 (quad a b).2 := by
  unfold quad
  (repeat' split)
  · exact h
  · exact h.turnR
  · exact h.turnR.turnR
  · have := h.turnR.turnR.turnR
    rwa [Int.neg_neg] at this
theorem dv_quad {k l a b : Int} (h : Dv a b k l) : Dv (quad a b).1 (quad a b).2 k l := by
  unfold quad
  (repeat' split)
  · exact h
  · exact h.turnL
  · exact h.turnL.turnL
  · have := h.turnL.turnL.turnL
    rwa [Int.neg_neg] at this
theorem quad_first (a b : Int) : (quad a b).1 = 0 ∧ (quad a b).2 = 0 ∧ a = 0 ∧ b = 0 ∨ 0 < (quad a b).1 ∧ 0 ≤ (quad a b).2 := by
  unfold quad
  (repeat' split) <;> simp only <;> omega
theorem quad_fit {a b : Int} (ha : Ft a) (hb : Ft b) : Ft (quad a b).1 ∧ Ft (quad a b).2 := by
  unfold quad Ft at *
  (repeat' split) <;> simp only <;> omega
theorem quad_norm (a b : Int) : norm (quad a b).1 (quad a b).2 = norm a b := by
  unfold quad norm
  (repeat' split) <;> grind
end Go.Proofs.Ytndfkpajojbfkaa.Ga
