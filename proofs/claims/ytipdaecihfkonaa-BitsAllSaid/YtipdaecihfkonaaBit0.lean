/-
  bits: none, Used; a map's bits, plain.
-/
import Derived.Test.YtipdaecihfkonaaBy
import Derived.RegionTactic
import Derived.WalkLawsBesides
import Derived.Laws.BitsAllLaws
namespace Go.Proofs.Ytipdaecihfkonaa.Bt
open Go.RowKit Wd By
set_option linter.unusedVariables false

/-- bit n of a map -/
def bitN (L : List UInt8) (n : Nat) : Bool := (L.getD (n / 8) 0).toNat.testBit (n % 8)
def usedB (L : List UInt8) (n : Int) : Bool := decide (L.length ≠ 128) || decide (n < 0) || decide (1024 ≤ n) || bitN L n.toNat
def setB (L : List UInt8) (n : Nat) (u : Bool) : List UInt8 :=
  L.set (n / 8) (UInt8.ofNat (if u then ((L.getD (n / 8) 0).toNat &&& (255 - 2 ^ (n % 8))) ||| 2 ^ (n % 8) else (L.getD (n / 8) 0).toNat &&& (255 - 2 ^ (n % 8))))
def isNone (L : List UInt8) (n : Int) : Prop := L.length ≠ 128 ∨ n < 0 ∨ 1024 ≤ n
theorem none_yes (A : Option Addr) (L : List UInt8) (c : Nat) (n : Int) (w : World) (h : isNone L n) : Calls Try.prog 26 #[.slice A L.length c, .int .i64 n] w fun e w' => e = .returned (.bool true) ∧ w = w' := by
  have hc : L.length ≠ 128 ∨ (L.length = 128 ∧ n < 0) ∨ (L.length = 128 ∧ 0 ≤ n ∧ 1024 ≤ n) := by unfold isNone at h; omega
  clear h
  obtain ⟨k, hk⟩ : ∃ k, k = L.length := ⟨_, rfl⟩
  rw [← hk] at hc ⊢
  clear hk
  rcases hc with h | ⟨rfl, h⟩ | ⟨rfl, h, h2⟩
  · have hb : ((k : Int) != 128) = true := by rw [bne_iff_ne]; omega
    clear h
    go_enter Try.func26, Try.ntmps26
    go_wp2
    go_ret
    exact ⟨rfl, rfl⟩
  · go_enter Try.func26, Try.ntmps26
    go_wp2
    go_ret
    exact ⟨rfl, rfl⟩
  · go_enter Try.func26, Try.ntmps26
    go_wp2
    go_ret
    exact ⟨rfl, rfl⟩
theorem none_no (A : Option Addr) (c : Nat) (n : Int) (w : World) (h0 : 0 ≤ n) (h1 : n < 1024) : Calls Try.prog 26 #[.slice A 128 c, .int .i64 n] w fun e w' => e = .returned (.bool false) ∧ w = w' := by
  have hd : decide (1024 ≤ n) = false := by simp; omega
  have hd0 : decide (n < 0) = false := by simp; omega
  go_enter Try.func26, Try.ntmps26
  go_wp2
  go_ret
  exact ⟨rfl, rfl⟩
theorem and_one (x j : Nat) (hx : x < 256) : (bits .and .u8 ((x : Int) / 2 ^ j) 1 == 1) = x.testBit j := by
  have hp : (2 : Int) ^ j = ((2 ^ j : Nat) : Int) := by rw [Int.natCast_pow]; rfl
  have hlt : x / 2 ^ j < 256 := Nat.lt_of_le_of_lt (Nat.div_le_self _ _) hx
  have h := u8_and_nat (x / 2 ^ j) 1 hlt (by decide)
  rw [hp, ← Int.natCast_ediv, show (1 : Int) = ((1 : Nat) : Int) from rfl, h, Nat.testBit_eq_decide_div_mod_eq, Nat.and_one_is_mod]
  generalize x / 2 ^ j % 2 = r
  rw [Bool.eq_iff_iff, beq_iff_eq, decide_eq_true_eq]
  exact Int.natCast_inj
theorem used_any0 (x : Nat) (hx : x < 256) (j : Nat) (hj : j < 8) (b off c n : Nat) (hn : n / 8 < 128) (hq : n % 8 = j) (w : World) (hc : w.cell? ⟨b, off + n / 8, none⟩ = some (.int .u8 (x : Int))) :
    Calls Try.prog 17 #[.slice (some ⟨b, off, none⟩) 128 c, .int .i64 (n : Int)] w fun e w' => e = .returned (.bool (x.testBit j)) ∧ w = w' := by
  have HN := Lib.hid (fun w => none_no (some ⟨b, off, none⟩) c (n : Int) w (by omega) (by omega))
  obtain ⟨q, hqq⟩ : ∃ q, q = n / 8 := ⟨_, rfl⟩
  have h8 : (n : Int) / 8 = (q : Int) := by omega
  have hm : (n : Int) % 8 = (j : Int) := by omega
  rw [← hqq] at hc hn
  have hn0 : (0 : Int) ≤ (n : Int) := by omega
  have hq0 : (0 : Int) ≤ (q : Int) := by omega
  have hq1 : (q : Int) < 128 := by omega
  have hj0 : (0 : Int) ≤ (j : Int) := by omega
  have hj8 : (j : Int) < 8 := by omega
  clear hqq hq
  go_enter Try.func17, Try.ntmps17
  go_wp2_with fail
  refine (HN.out _).mono ?_
  rintro e w' ⟨rfl, rfl⟩
  go_wp2_with fail
  go_ret
  exact ⟨by rw [← and_one x j hx]; rfl, rfl⟩
theorem used_no (A : Option Addr) (L : List UInt8) (c : Nat) (n : Int) (w : World) (h : isNone L n) : Calls Try.prog 17 #[.slice A L.length c, .int .i64 n] w fun e w' => e = .returned (.bool true) ∧ w = w' := by
  have HN := Lib.hid (fun w => none_yes A L c n w h)
  clear h
  go_enter Try.func17, Try.ntmps17
  go_wp2_with fail
  refine (HN.out _).mono ?_
  rintro e w' ⟨rfl, rfl⟩
  go_wp2_with fail
  go_ret
  exact ⟨rfl, rfl⟩
theorem used_any (A : Option Addr) (L : List UInt8) (c : Nat) (n : Int) (w : World) (hs : Sl w w.heap.size 1 A L.length (L.map bv)) : Calls Try.prog 17 #[.slice A L.length c, .int .i64 n] w fun e w' => e = .returned (.bool (usedB L n)) ∧ w = w' := by
  by_cases h : isNone L n
  · have e : usedB L n = true := by
      unfold usedB
      rcases h with h | h | h <;> simp [h]
    rw [e]
    exact used_no A L c n w h
  · have h128 : L.length = 128 := by unfold isNone at h; omega
    have h0 : 0 ≤ n := by unfold isNone at h; omega
    have h1 : n < 1024 := by unfold isNone at h; omega
    obtain ⟨n, rfl⟩ := Int.eq_ofNat_of_zero_le h0
    have e : usedB L n = (L.getD (n / 8) 0).toNat.testBit (n % 8) := by
      unfold usedB bitN
      have e2 : decide (1024 ≤ (n : Int)) = false := by simp; omega
      have e3 : decide ((n : Int) < 0) = false := by simp
      rw [e2, e3]
      simp [h128]
    have hlt : n / 8 < L.length := by omega
    rw [e, h128]
    obtain ⟨b, off, rfl, _, hcell⟩ := hs.at (by omega) (by decide)
    have hc := hcell (n / 8) _ (bv_at L (n / 8) hlt)
    refine used_any0 (L.getD (n / 8) 0).toNat (UInt8.toNat_lt _) (n % 8) (by omega) b off c n (by omega) rfl w ?_
    rw [hc, List.getD_eq_getElem?_getD, List.getElem?_eq_getElem hlt]
    rfl
theorem pow_lt {j : Nat} (hj : j < 8) : 2 ^ j < 256 ∧ (2 : Int) ^ j % 256 = ((2 ^ j : Nat) : Int) := by
  have h : j = 0 ∨ j = 1 ∨ j = 2 ∨ j = 3 ∨ j = 4 ∨ j = 5 ∨ j = 6 ∨ j = 7 := by omega
  rcases h with rfl | rfl | rfl | rfl | rfl | rfl | rfl | rfl <;> decide
theorem and_not {x j : Nat} (hx : x < 256) (hj : j < 8) : bits .andNot .u8 (x : Int) ((2 : Int) ^ j % 256) = ((x &&& (255 - 2 ^ j) : Nat) : Int) := by
  rw [(pow_lt hj).2, u8_andNot_nat _ _ hx (pow_lt hj).1]
theorem or_bit {y j : Nat} (hy : y < 256) (hj : j < 8) : bits .or .u8 (y : Int) ((2 : Int) ^ j % 256) = ((y ||| 2 ^ j : Nat) : Int) := by
  rw [(pow_lt hj).2, u8_or_nat _ _ hy (pow_lt hj).1]
theorem bv_nat {y : Nat} (hy : y < 256) : bv (UInt8.ofNat y) = .int .u8 (y : Int) := by
  have := bv_of (y : Int) (by omega) (by omega)
  rwa [Int.toNat_natCast] at this
set_option maxHeartbeats 800000 in
theorem set_any0 (u : Bool) (x y z : Nat) (hx8 : x < 256) (j : Nat) (hj : j < 8) (base g c n : Nat) (L : List UInt8) (hn : n / 8 < 128) (hq : n % 8 = j) (w : World)
    (ho : w.ownsRow base 5 1 (.slice (some ⟨g, 0, none⟩) 128 c) 128 (L.map bv)) (hx : (L.getD (n / 8) 0).toNat = x) (hy : x &&& (255 - 2 ^ j) = y) (hz : y ||| 2 ^ j = z) (hy8 : y < 256) (hz8 : z < 256) :
    Calls Try.prog 12 #[.slice (some ⟨g, 0, none⟩) 128 c, .int .i64 (n : Int), .bool u] w fun e w' => e = .returned (.bool true) ∧
      w'.ownsRow base 5 1 (.slice (some ⟨g, 0, none⟩) 128 c) 128 ((L.set (n / 8) (UInt8.ofNat (if u then z else y))).map bv) ∧ Only g w w' := by
  have HN := Lib.hid (fun w => none_no (some ⟨g, 0, none⟩) c (n : Int) w (by omega) (by omega))
  obtain ⟨q, hqq⟩ : ∃ q, q = n / 8 := ⟨_, rfl⟩
  have h8 : (n : Int) / 8 = (q : Int) := by omega
  have hm : (n : Int) % 8 = (j : Int) := by omega
  obtain ⟨hc, hf⟩ := own_there ho (n / 8) hn
  unfold bv at hc
  rw [hx] at hc
  have e1 := and_not hx8 hj
  rw [hy] at e1
  have e2 := or_bit hy8 hj
  rw [hz] at e2
  rw [← hqq] at hc hn hf ⊢
  have hl : q < L.length := by have := ho.1; simp at this; omega
  have h1 := own_set ho q (UInt8.ofNat y)
  rw [bv_nat hy8] at h1
  have H1 := Lib.hid h1
  have HO := Lib.hid ho
  have hq0 : (0 : Int) ≤ (q : Int) := by omega
  have hq1 : (q : Int) < 128 := by omega
  have hn0 : (0 : Int) ≤ (n : Int) := by omega
  have hj0 : (0 : Int) ≤ (j : Int) := by omega
  have hj8 : (j : Int) < 8 := by omega
  clear hqq hq ho h1 hx hy hz
  cases u
  · rw [if_neg (by decide)]
    go_enter Try.func12, Try.ntmps12
    go_wp2_with fail
    refine (HN.out _).mono ?_
    rintro e w' ⟨rfl, rfl⟩
    go_wp2_with fail
    go_region
    obtain ⟨w1, hw1⟩ : ∃ w1, w1 = (w.setCell ⟨g, q, none⟩ (.int .u8 (y : Int))).drew := ⟨_, rfl⟩
    rw [← hw1]
    have HW := Lib.hid hw1
    clear hw1
    go_wp2_with fail
    go_ret
    exact ⟨rfl, by rw [HW.out]; exact H1.out, by rw [HW.out]; exact Only.drew (Only.setCell g q w _)⟩
  · rw [if_pos rfl]
    have h2 : ∀ w1, w1 = (w.setCell ⟨g, q, none⟩ (.int .u8 (y : Int))).drew → w1.cell? ⟨g, q, none⟩ = some (.int .u8 (y : Int)) ∧ w1.frozen? ⟨g, q, none⟩ = false := by
      rintro w1 rfl
      have h3 : (w.setCell ⟨g, q, none⟩ (.int .u8 (y : Int))).drew.ownsRow base 5 1 (.slice (some ⟨g, 0, none⟩) 128 c) 128 ((L.set q (UInt8.ofNat y)).map bv) := H1.out
      have h4 := own_there h3 q hn
      rw [List.getD_eq_getElem?_getD, List.getElem?_set_self hl] at h4
      exact ⟨h4.1.trans (by rw [← bv_nat hy8]; rfl), h4.2⟩
    have H2 := Lib.hid h2
    have h5 : ∀ w1, w1 = (w.setCell ⟨g, q, none⟩ (.int .u8 (y : Int))).drew → (w1.setCell ⟨g, q, none⟩ (.int .u8 (z : Int))).ownsRow base 5 1 (.slice (some ⟨g, 0, none⟩) 128 c) 128 ((L.set q (UInt8.ofNat z)).map bv) := by
      rintro w1 rfl
      have h3 : (w.setCell ⟨g, q, none⟩ (.int .u8 (y : Int))).drew.ownsRow base 5 1 (.slice (some ⟨g, 0, none⟩) 128 c) 128 ((L.set q (UInt8.ofNat y)).map bv) := H1.out
      have h4 := own_set h3 q (UInt8.ofNat z)
      rw [bv_nat hz8, List.set_set] at h4
      exact h4
    have H5 := Lib.hid h5
    clear h2 h5
    go_enter Try.func12, Try.ntmps12
    go_wp2_with fail
    refine (HN.out _).mono ?_
    rintro e w' ⟨rfl, rfl⟩
    go_wp2_with fail
    go_region
    obtain ⟨w1, hw1⟩ : ∃ w1, w1 = (w.setCell ⟨g, q, none⟩ (.int .u8 (y : Int))).drew := ⟨_, rfl⟩
    rw [← hw1]
    obtain ⟨hc1, hf1⟩ := H2.out w1 hw1
    have HW := Lib.hid hw1
    clear hw1 hc hf
    go_wp2_with fail
    go_region
    obtain ⟨w2, hw2⟩ : ∃ w2, w2 = (w1.setCell ⟨g, q, none⟩ (.int .u8 (z : Int))).drew := ⟨_, rfl⟩
    rw [← hw2]
    have HW2 := Lib.hid hw2
    clear hw2
    go_wp2_with fail
    go_ret
    exact ⟨rfl, by rw [HW2.out]; exact H5.out _ HW.out, by rw [HW2.out, HW.out]; exact Only.drew ((Only.drew (Only.setCell g q w _)).trans (Only.setCell g q _ _))⟩
theorem set_any (u : Bool) (base g c n : Nat) (L : List UInt8) (hl : L.length = 128) (hn : n < 1024) (w : World) (ho : w.ownsRow base 5 1 (.slice (some ⟨g, 0, none⟩) 128 c) 128 (L.map bv)) :
    Calls Try.prog 12 #[.slice (some ⟨g, 0, none⟩) 128 c, .int .i64 (n : Int), .bool u] w fun e w' => e = .returned (.bool true) ∧
      w'.ownsRow base 5 1 (.slice (some ⟨g, 0, none⟩) 128 c) 128 ((setB L n u).map bv) ∧ Only g w w' := by
  have hx : (L.getD (n / 8) 0).toNat < 256 := UInt8.toNat_lt _
  have hy : (L.getD (n / 8) 0).toNat &&& (255 - 2 ^ (n % 8)) < 256 := Nat.lt_of_le_of_lt Nat.and_le_left hx
  exact set_any0 u _ _ _ hx (n % 8) (by omega) base g c n L (by omega) rfl w ho rfl rfl rfl hy (Nat.or_lt_two_pow (n := 8) hy (pow_lt (by omega)).1)
theorem set_no (u : Bool) (A : Option Addr) (L : List UInt8) (c : Nat) (n : Int) (w : World) (h : isNone L n) : Calls Try.prog 12 #[.slice A L.length c, .int .i64 n, .bool u] w fun e w' => e = .returned (.bool false) ∧ w = w' := by
  have HN := Lib.hid (fun w => none_yes A L c n w h)
  clear h
  go_enter Try.func12, Try.ntmps12
  go_wp2_with fail
  refine (HN.out _).mono ?_
  rintro e w' ⟨rfl, rfl⟩
  go_wp2_with fail
  go_ret
  exact ⟨rfl, rfl⟩
end Go.Proofs.Ytipdaecihfkonaa.Bt
