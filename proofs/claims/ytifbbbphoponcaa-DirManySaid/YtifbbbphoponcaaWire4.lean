/-
  The contract of wire.Get: the number whose bytes stand at a place.
-/
import Derived.Test.YtifbbbphoponcaaWire3
namespace Go.Proofs.Ytifbbbphoponcaa.Wi
open Go.RowKit Wd
set_option linter.unusedVariables false

def leN : List UInt8 → Nat
  | [] => 0
  | b :: l => b.toNat + 256 * leN l
def seg (l : List UInt8) (a k : Nat) : List UInt8 := (l.drop a).take k

theorem leN_append (x y : List UInt8) : leN (x ++ y) = leN x + 256 ^ x.length * leN y := by
  induction x with
  | nil => simp [leN]
  | cons b x ih =>
    simp only [List.cons_append, leN, ih, List.length_cons, Nat.pow_succ, Nat.mul_add]
    rw [Nat.mul_comm (256 ^ x.length) 256, Nat.mul_assoc, Nat.add_assoc]
theorem leN_lt (x : List UInt8) : leN x < 256 ^ x.length := by
  induction x with
  | nil => simp [leN]
  | cons b x ih =>
    have hb : b.toNat < 256 := UInt8.toNat_lt b
    simp only [leN, List.length_cons, Nat.pow_succ]
    omega
theorem seg_step (l : List UInt8) (a k t : Nat) (h : a + k ≤ l.length) (ht : t < k) : ∃ x : UInt8,
    (List.take (k * 1) (List.drop (a * 1) (l.map bv)))[t]? = some (.int .u8 (x.toNat : Int)) ∧ leN (seg l a (t + 1)) = leN (seg l a t) + 256 ^ t * x.toNat ∧ leN (seg l a t) < 256 ^ t := by
  have hl : (seg l a t).length = t := by simp [seg]; omega
  refine ⟨l[a + t], ?_, ?_, ?_⟩
  · rw [Nat.mul_one, Nat.mul_one, List.getElem?_take, if_pos ht, List.getElem?_drop, bv_at l (a + t) (by omega)]
    rfl
  · have : seg l a (t + 1) = seg l a t ++ [l[a + t]] := by
      unfold seg
      rw [List.take_succ_eq_append_getElem (by simp; omega)]
      simp
    rw [this, leN_append, hl]
    simp [leN]
  · have := leN_lt (seg l a t)
    rwa [hl] at this

theorem bits_or_nat (a b : Nat) (ha : a < 9223372036854775808) (hb : b < 9223372036854775808) : bits .or .i64 (a : Int) (b : Int) = ((a ||| b : Nat) : Int) := by
  have hx : a ||| b < 2 ^ 63 := Nat.or_lt_two_pow (by omega) (by omega)
  have e : ∀ n : Nat, n < 9223372036854775808 → (BitVec.ofInt 64 (n : Int)).toNat = n := fun n hn => by
    rw [BitVec.ofInt_natCast, BitVec.toNat_ofNat]; exact Nat.mod_eq_of_lt (by omega)
  show IntKind.i64.wrap ((BitVec.ofInt 64 (a : Int) ||| BitVec.ofInt 64 (b : Int)).toNat : Int) = _
  rw [BitVec.toNat_or, e a ha, e b hb, IntKind.wrap_i64]
  omega
theorem pow_256 (t : Nat) : (256 : Nat) ^ t = 2 ^ (8 * t) := by rw [Nat.pow_mul]
theorem or_shift (V x t : Nat) (hV : V < 256 ^ t) (hx : x < 256) (ht : t < 7) : bits .or .i64 (V : Int) (wrap64 ((x : Int) * 2 ^ (8 * t))) = ((V + 256 ^ t * x : Nat) : Int) := by
  have hp : (256 : Nat) ^ t ≤ 256 ^ 6 := Nat.pow_le_pow_right (by decide) (by omega)
  have hxp : x * 256 ^ t ≤ 255 * 256 ^ 6 := Nat.mul_le_mul (by omega) hp
  have hc : (x : Int) * 2 ^ (8 * t) = ((x * 256 ^ t : Nat) : Int) := by rw [pow_256]; push_cast; rfl
  have hs : x * 256 ^ t ≤ 71776119061217280 := by simpa using hxp
  have hV2 : V < 281474976710656 := by have : (256 : Nat) ^ 6 = 281474976710656 := by decide
                                       omega
  rw [hc, RowKit.wrap64, show ((((x * 256 ^ t : Nat) : Int) + 9223372036854775808) % 18446744073709551616 - 9223372036854775808) = ((x * 256 ^ t : Nat) : Int) from by omega, bits_or_nat V _ (by omega) (by omega)]
  congr 1
  rw [Nat.or_comm, Nat.mul_comm x, pow_256, ← Nat.two_pow_add_eq_or_of_lt (by rw [← pow_256]; exact hV)]
  omega

def getBad (n : Nat) (a k : Int) : Prop := k < 1 ∨ 7 < k ∨ a < 0 ∨ (n : Int) < a ∨ (n : Int) - a < k
instance (n : Nat) (a k : Int) : Decidable (getBad n a k) := by unfold getBad; infer_instance

set_option maxHeartbeats 400000 in
theorem get_yes (A : Option Addr) (l : List UInt8) (c : Nat) (a k : Int) (w : World) (hs : Sl w w.heap.size 1 A l.length (l.map bv)) (hc : l.length ≤ c) (hc2 : c ≤ maxLen)
    (ha : 0 ≤ a) (hk : 1 ≤ k) (hk7 : k ≤ 7) (hak : a + k ≤ (l.length : Int)) :
    Calls Try.prog 34 #[.slice A l.length c, .int .i64 a, .int .i64 k] w fun e w' => e = .returned (.tuple #[.int .i64 (leN (seg l a.toNat k.toNat) : Int), .bool true]) ∧ w = w' := by
  unfold maxLen at hc2
  obtain ⟨i0, hi, hz0, hz1, hz2⟩ := info_parts infoB
  obtain ⟨a, rfl⟩ := Int.eq_ofNat_of_zero_le ha
  obtain ⟨k, rfl⟩ := Int.eq_ofNat_of_zero_le (show 0 ≤ k by omega)
  simp only [Int.toNat_natCast]
  go_enter Try.func34, Try.ntmps34
  go_wp2_with ((with_reducible show wpList _ _ _ (⟨some 40, _, _, _, _, _⟩ :: _) _ _); refine wpList_slice_sl rfl 23 _ _ _ _ rfl 5 i0 1 Try.underlying23 hi hz1 _ _ _ rfl a k (c - a) (.inr ⟨_, _, rfl, rfl⟩) (.inr ⟨_, _, rfl, by omega⟩) (.inl ⟨rfl, by omega⟩) (by omega) (by omega) (by omega) hs ?_; intro A1 hs1)
  go_loop [8, 42] (fun v j => ∃ t : Nat, t ≤ k ∧ j = .int .i64 (t : Int) ∧ v = .int .i64 (leN (seg l a t) : Int)) (fun _ j => k - (intOf j).toNat)
  case atStart => exact ⟨0, by omega, rfl, rfl⟩
  case round =>
    obtain ⟨t, ht, rfl, rfl⟩ := hrel
    by_cases hlt : t < k
    · obtain ⟨b, off, rfl, hbB, hcell⟩ := hs1.at (by omega) (by omega)
      obtain ⟨x, hx, hstep, hlt2⟩ := seg_step l a k t (by omega) hlt
      have hcell1 := hcell t _ hx
      have hxb : (x.toNat : Int) ≤ 255 := by have := UInt8.toNat_lt x; omega
      have HS := Lib.hid hstep
      have HL := Lib.hid hlt2
      clear hstep hlt2 hcell hx hs hs1
      generalize leN (seg l a t) = V at *
      go_wp2
      go_round
      case measure => simp [intOf]; omega
      case rel =>
        refine ⟨t + 1, by omega, by go_num, ?_⟩
        rw [or_shift V x.toNat t HL.out (UInt8.toNat_lt x) (by omega), HS.out]
    · have htk : t = k := by omega
      have HT := Lib.hid htk
      have htI : (k : Int) ≤ (t : Int) := by omega
      clear htk hs hs1
      go_wp2
      go_ret2
      rw [HT.out]
      exact ⟨rfl, rfl⟩

set_option maxHeartbeats 400000 in
theorem get_no (A : Option Addr) (n c : Nat) (a k : Int) (w : World) (hc2 : n ≤ maxLen) (h : getBad n a k) (ha : -9223372036854775808 ≤ a) (ha2 : a ≤ 9223372036854775807) :
    Calls Try.prog 34 #[.slice A n c, .int .i64 a, .int .i64 k] w fun e w' => e = .returned (.tuple #[.int .i64 0, .bool false]) ∧ w = w' := by
  unfold maxLen at hc2
  have hn0 : (0 : Int) ≤ (n : Int) := by omega
  have hn1 : (n : Int) ≤ 9223372036854775807 := by omega
  have hcase : k < 1 ∨ (1 ≤ k ∧ 7 < k) ∨ (1 ≤ k ∧ k ≤ 7 ∧ a < 0) ∨ (1 ≤ k ∧ k ≤ 7 ∧ 0 ≤ a ∧ (n : Int) < a) ∨ (1 ≤ k ∧ k ≤ 7 ∧ 0 ≤ a ∧ a ≤ (n : Int) ∧ (n : Int) - a < k) := by
    unfold getBad at h
    omega
  clear h
  rcases hcase with h | ⟨h, h1⟩ | ⟨h, h1, h2⟩ | ⟨h, h1, h2, h3⟩ | ⟨h, h1, h2, h3, h4⟩
  all_goals
    go_enter Try.func34, Try.ntmps34
    go_wp2
    go_ret2
    exact ⟨rfl, rfl⟩
end Go.Proofs.Ytifbbbphoponcaa.Wi
