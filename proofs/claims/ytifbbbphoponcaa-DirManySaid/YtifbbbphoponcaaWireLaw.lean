/-
  Plain laws of wire, with no program in sight: what is put is got back.
-/
import Derived.Test.YtifbbbphoponcaaWire5
namespace Go.Proofs.Ytifbbbphoponcaa.Wi
open Go.RowKit Wd
set_option linter.unusedVariables false

theorem toNat_ofNat8 (x : Int) (h0 : 0 ≤ x) (h1 : x < 256) : (UInt8.ofNat x.toNat).toNat = x.toNat := by
  rw [UInt8.toNat_ofNat']; exact Nat.mod_eq_of_lt (by omega)

/-- the number that m lowest bytes are -/
theorem leN_putB (v : Int) (m : Nat) : (leN (putB v m) : Int) = v % 256 ^ m := by
  induction m with
  | zero => simp [putB, leN]
  | succ m ih =>
    have hp : (0 : Int) < 256 ^ m := Int.pow_pos (by decide)
    have hb0 := Int.emod_nonneg (v / 2 ^ (8 * m)) (show (256 : Int) ≠ 0 by decide)
    have hb1 := Int.emod_lt_of_pos (v / 2 ^ (8 * m)) (show (0 : Int) < 256 by decide)
    rw [putB_succ, leN_append, putB_len, Int.natCast_add, Int.natCast_mul, ih]
    simp only [leN, Nat.mul_zero, Nat.add_zero]
    rw [toNat_ofNat8 _ hb0 hb1, Int.toNat_of_nonneg hb0]
    have h256 : (((256 : Nat) ^ m : Nat) : Int) = 256 ^ m := Int.natCast_pow 256 m
    have h2 : (2 : Int) ^ (8 * m) = 256 ^ m := by rw [Int.pow_mul]; rfl
    rw [h256, h2, Int.pow_succ]
    have e1 := Int.emod_add_mul_ediv v (256 ^ m)
    have e2 := Int.emod_add_mul_ediv (v / 256 ^ m) 256
    have hr0 := Int.emod_nonneg v (show (256 : Int) ^ m ≠ 0 by omega)
    have hr1 := Int.emod_lt_of_pos v hp
    have hq0 := Int.emod_nonneg (v / 256 ^ m) (show (256 : Int) ≠ 0 by decide)
    have hq1 := Int.emod_lt_of_pos (v / 256 ^ m) (show (0 : Int) < 256 by decide)
    have hlt : v % 256 ^ m + 256 ^ m * (v / 256 ^ m % 256) < 256 ^ m * 256 := by
      have : 256 ^ m * (v / 256 ^ m % 256) ≤ 256 ^ m * 255 := Int.mul_le_mul_of_nonneg_left (by omega) (by omega)
      omega
    have hge : 0 ≤ v % 256 ^ m + 256 ^ m * (v / 256 ^ m % 256) := by
      have : 0 ≤ 256 ^ m * (v / 256 ^ m % 256) := Int.mul_nonneg (by omega) hq0
      omega
    have hv : v = (v % 256 ^ m + 256 ^ m * (v / 256 ^ m % 256)) + (256 ^ m * 256) * (v / 256 ^ m / 256) := by
      have : 256 ^ m * (v / 256 ^ m) = 256 ^ m * (v / 256 ^ m % 256) + (256 ^ m * 256) * (v / 256 ^ m / 256) := by
        rw [Int.mul_assoc, ← Int.mul_add, e2]
      omega
    conv => rhs; rw [hv]
    rw [Int.add_mul_emod_self_left, Int.emod_eq_of_lt hge hlt]

theorem pow_256I (m : Nat) : (2 : Int) ^ (8 * m) = 256 ^ m := by rw [Int.pow_mul]; rfl

/-- 'v & (1<<k - 1)' -/
theorem and_mask (v : Int) (m : Nat) (hm : m ≤ 7) : bits .and .i64 v (256 ^ m - 1) = v % 256 ^ m := by
  have hN : (256 : Nat) ^ m = 2 ^ (8 * m) := by rw [Nat.pow_mul]
  have hp : 0 < (256 : Nat) ^ m := Nat.pow_pos (by decide)
  have hle : (256 : Nat) ^ m ≤ 256 ^ 7 := Nat.pow_le_pow_right (by decide) hm
  have h7 : (256 : Nat) ^ 7 = 72057594037927936 := by decide
  have hc : (256 : Int) ^ m - 1 = ((256 ^ m - 1 : Nat) : Int) := by rw [Int.natCast_sub (by omega), Int.natCast_pow]; rfl
  have e1 : (BitVec.ofInt 64 ((256 : Int) ^ m - 1)).toNat = 256 ^ m - 1 := by
    rw [hc, BitVec.ofInt_natCast, BitVec.toNat_ofNat]; exact Nat.mod_eq_of_lt (by omega)
  have e2 : (BitVec.ofInt 64 v).toNat = (v % 18446744073709551616).toNat := by
    rw [BitVec.toNat_ofInt]; rfl
  have hr0 := Int.emod_nonneg v (show (256 : Int) ^ m ≠ 0 from Int.ne_of_gt (Int.pow_pos (by decide)))
  have hr1 := Int.emod_lt_of_pos v (show (0 : Int) < 256 ^ m from Int.pow_pos (by decide))
  have hcast : ((256 ^ m : Nat) : Int) = 256 ^ m := Int.natCast_pow 256 m
  show IntKind.i64.wrap ((BitVec.ofInt 64 v &&& BitVec.ofInt 64 (256 ^ m - 1)).toNat : Int) = _
  rw [BitVec.toNat_and, e1, e2, hN, Nat.and_two_pow_sub_one_eq_mod, ← hN, Int.natCast_emod, Int.toNat_of_nonneg (Int.emod_nonneg _ (by decide)), hcast]
  have hd : (256 : Int) ^ m ∣ 18446744073709551616 := ⟨256 ^ (8 - m), by rw [← Int.pow_add, show m + (8 - m) = 8 by omega]; rfl⟩
  rw [Int.emod_emod_of_dvd _ hd, IntKind.wrap_i64]
  omega

theorem mask_form (v : Int) (m : Nat) (hm : m ≤ 7) : bits .and .i64 v (wrap64 (wrap64 (2 ^ (8 * m)) - 1)) = v % 256 ^ m := by
  have hp : 0 < (256 : Nat) ^ m := Nat.pow_pos (by decide)
  have hle : (256 : Nat) ^ m ≤ 256 ^ 7 := Nat.pow_le_pow_right (by decide) hm
  have h7 : (256 : Nat) ^ 7 = 72057594037927936 := by decide
  have hc : (256 : Int) ^ m = ((256 ^ m : Nat) : Int) := (Int.natCast_pow 256 m).symm
  rw [pow_256I, ← and_mask v m hm]
  congr 1
  unfold wrap64
  omega

theorem own_set {w : World} {base g n c : Nat} {e : TypeId} {L : List UInt8} (h : w.ownsRow base e 1 (.slice (some ⟨g, 0, none⟩) n c) n (L.map bv)) (j : Nat) (y : UInt8) :
    (w.setCell ⟨g, j, none⟩ (bv y)).ownsRow base e 1 (.slice (some ⟨g, 0, none⟩) n c) n ((L.set j y).map bv) := by
  have := (h.stored j (bv y)).1
  rwa [← List.map_set] at this

theorem seg_whole (l : List UInt8) (n : Nat) (h : l.length = n) : seg l 0 n = l := by
  unfold seg
  rw [List.drop_zero, List.take_of_length_le (by omega)]

/-- a text that was put behind any bytes, and ahead of any, is got -/
theorem text_back (pre suf : List UInt8) (s : ByteArray) (r : Nat) (hs : s.size ≤ r) (hr : r ≤ 255) :
    tB (pre ++ txt s r ++ suf) pre.length r = true ∧ tS (pre ++ txt s r ++ suf) pre.length r = s.data.toList := by
  have hsz : (UInt8.ofNat s.size).toNat = s.size := by rw [UInt8.toNat_ofNat']; exact Nat.mod_eq_of_lt (by omega)
  have hh : ((pre ++ txt s r ++ suf).getD pre.length 0) = UInt8.ofNat s.size := by
    simp [txt, List.getD_eq_getElem?_getD]
  have hdl := size_data s
  have hseg2 : seg (pre ++ txt s r ++ suf) (pre.length + 1) s.size = s.data.toList := by
    unfold seg txt
    rw [List.append_assoc, ← List.drop_drop, List.drop_left]
    simp only [List.cons_append, List.drop_succ_cons, List.drop_zero, List.append_assoc]
    rw [List.take_append_of_le_length (by omega), List.take_of_length_le (by omega)]
  have hseg1 : seg (pre ++ txt s r ++ suf) (pre.length + 1 + s.size) (r - s.size) = List.replicate (r - s.size) 0 := by
    unfold seg txt
    rw [List.append_assoc, Nat.add_assoc, ← List.drop_drop, List.drop_left, Nat.add_comm 1 s.size]
    simp only [List.cons_append, List.drop_succ_cons, List.append_assoc]
    rw [List.drop_append_of_le_length (by omega), List.drop_of_length_le (by omega), List.nil_append, List.take_append_of_le_length (by simp), List.take_of_length_le (by simp)]
  have ht : tB (pre ++ txt s r ++ suf) pre.length r = true := by
    unfold tB
    rw [hh, hsz, hseg1]
    simp [hs]
  refine ⟨ht, ?_⟩
  unfold tS
  rw [ht, hh, hsz, hseg2]
  rfl
end Go.Proofs.Ytifbbbphoponcaa.Wi
