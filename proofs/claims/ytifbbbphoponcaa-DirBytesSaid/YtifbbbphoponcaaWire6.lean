/-
  The contracts of the document's Get and GetText.
-/
import Derived.Test.YtifbbbphoponcaaWire5
namespace Go.Proofs.Ytifbbbphoponcaa.Wi
open Go.RowKit Wd
set_option linter.unusedVariables false

theorem seg_back (l : List UInt8) (a k j : Nat) (h : a + k ≤ l.length) (hj : j < k) (hk : k ≤ 7) : ∃ x : UInt8,
    (l.map bv)[a + j]? = some (.int .u8 (x.toNat : Int)) ∧ leN (seg l (a + j) (k - j)) = 256 * leN (seg l (a + (j + 1)) (k - (j + 1))) + x.toNat ∧ leN (seg l (a + (j + 1)) (k - (j + 1))) ≤ 281474976710655 := by
  refine ⟨l[a + j], ?_, ?_, ?_⟩
  · rw [bv_at l (a + j) (by omega)]; rfl
  · have : seg l (a + j) (k - j) = l[a + j] :: seg l (a + (j + 1)) (k - (j + 1)) := by
      unfold seg
      rw [List.drop_eq_getElem_cons (by omega), show k - j = (k - (j + 1)) + 1 by omega, List.take_succ_cons]
      rfl
    rw [this]
    simp only [leN]
    omega
  · have h1 := leN_lt (seg l (a + (j + 1)) (k - (j + 1)))
    have h2 : (seg l (a + (j + 1)) (k - (j + 1))).length ≤ 6 := by simp [seg]; omega
    have h3 : (256 : Nat) ^ (seg l (a + (j + 1)) (k - (j + 1))).length ≤ 256 ^ 6 := Nat.pow_le_pow_right (by decide) h2
    have h4 : (256 : Nat) ^ 6 = 281474976710656 := by decide
    omega

set_option maxHeartbeats 400000 in
theorem rget_yes (A : Option Addr) (l : List UInt8) (c : Nat) (a k : Int) (w : World) (hs : Sl w w.heap.size 1 A l.length (l.map bv)) (hc2 : l.length ≤ maxLen)
    (ha : 0 ≤ a) (hk : 1 ≤ k) (hk7 : k ≤ 7) (hak : a + k ≤ (l.length : Int)) :
    Calls Try.prog 39 #[.slice A l.length c, .int .i64 a, .int .i64 k] w fun e w' => e = .returned (.tuple #[.int .i64 (leN (seg l a.toNat k.toNat) : Int), .bool true]) ∧ w = w' := by
  unfold maxLen at hc2
  obtain ⟨a, rfl⟩ := Int.eq_ofNat_of_zero_le ha
  obtain ⟨k, rfl⟩ := Int.eq_ofNat_of_zero_le (show 0 ≤ k by omega)
  simp only [Int.toNat_natCast]
  obtain ⟨b, off, rfl, hbB, hcell⟩ := hs.at (by omega) (by omega)
  have HC := Lib.hid hcell
  clear hs hcell
  go_enter Try.func39, Try.ntmps39
  go_wp2
  go_loop [8, 9] (fun v i => ∃ j : Nat, j ≤ k ∧ i = .int .i64 ((j : Int) - 1) ∧ v = .int .i64 (leN (seg l (a + j) (k - j)) : Int)) (fun _ i => (intOf i + 1).toNat)
  case atStart => exact ⟨k, by omega, rfl, by simp [seg, leN]⟩
  case round =>
    obtain ⟨j, hj, rfl, rfl⟩ := hrel
    rcases Nat.eq_zero_or_pos j with h0 | h0
    · subst h0
      go_wp2
      go_ret2
      exact ⟨rfl, rfl⟩
    · obtain ⟨j, rfl⟩ : ∃ j', j = j' + 1 := ⟨j - 1, by omega⟩
      have e : (((j + 1 : Nat) : Int) - 1) = (j : Int) := by omega
      rw [e]
      clear e
      obtain ⟨x, hx, hstep, hlt2⟩ := seg_back l a k j (by omega) (by omega) (by omega)
      have hcell1 := HC.out (a + j) _ hx
      have hxb : (x.toNat : Int) ≤ 255 := by have := UInt8.toNat_lt x; omega
      have HS := Lib.hid hstep
      clear hstep hx
      generalize leN (seg l (a + (j + 1)) (k - (j + 1))) = V at *
      have hV : (V : Int) ≤ 281474976710655 := by omega
      go_wp2
      go_round
      case measure => simp [intOf]
      case rel => exact ⟨j, by omega, rfl, by rw [HS.out]; go_num⟩

set_option maxHeartbeats 400000 in
theorem rget_no (A : Option Addr) (n c : Nat) (a k : Int) (w : World) (hc2 : n ≤ maxLen) (h : getBad n a k) (ha : -9223372036854775808 ≤ a) (ha2 : a ≤ 9223372036854775807) :
    Calls Try.prog 39 #[.slice A n c, .int .i64 a, .int .i64 k] w fun e w' => e = .returned (.tuple #[.int .i64 0, .bool false]) ∧ w = w' := by
  unfold maxLen at hc2
  have hn0 : (0 : Int) ≤ (n : Int) := by omega
  have hn1 : (n : Int) ≤ 9223372036854775807 := by omega
  have hcase : k < 1 ∨ (1 ≤ k ∧ 7 < k) ∨ (1 ≤ k ∧ k ≤ 7 ∧ a < 0) ∨ (1 ≤ k ∧ k ≤ 7 ∧ 0 ≤ a ∧ (n : Int) < a) ∨ (1 ≤ k ∧ k ≤ 7 ∧ 0 ≤ a ∧ a ≤ (n : Int) ∧ (n : Int) - a < k) := by
    unfold getBad at h
    omega
  clear h
  rcases hcase with h | ⟨h, h1⟩ | ⟨h, h1, h2⟩ | ⟨h, h1, h2, h3⟩ | ⟨h, h1, h2, h3, h4⟩
  all_goals
    go_enter Try.func39, Try.ntmps39
    go_wp2
    go_ret2
    exact ⟨rfl, rfl⟩

set_option maxHeartbeats 800000 in
theorem rgtext_yes (A : Option Addr) (l : List UInt8) (c : Nat) (a k : Int) (w : World) (hs : Sl w w.heap.size 1 A l.length (l.map bv)) (hc : l.length ≤ c) (hc2 : c ≤ maxLen)
    (ha : 0 ≤ a) (hk : 0 ≤ k) (hk7 : k ≤ 255) (hak : a + k + 1 ≤ (l.length : Int)) :
    Calls Try.prog 38 #[.slice A l.length c, .int .i64 a, .int .i64 k] w fun e w' => e = .returned (.tuple #[.string (str (tS l a.toNat k.toNat)), .bool (tB l a.toNat k.toNat)]) ∧ w = w' := by
  unfold maxLen at hc2
  obtain ⟨i0, hi, hz0, hz1, hz2⟩ := info_parts infoB
  obtain ⟨a, rfl⟩ := Int.eq_ofNat_of_zero_le ha
  obtain ⟨k, rfl⟩ := Int.eq_ofNat_of_zero_le hk
  simp only [Int.toNat_natCast]
  have HB : Hid (tB l a k = (decide ((l.getD a 0).toNat ≤ k) && (seg l (a + 1 + (l.getD a 0).toNat) (k - (l.getD a 0).toNat)).all (· == 0))) := rfl
  have HS : Hid (tS l a k = if tB l a k then seg l (a + 1) (l.getD a 0).toNat else []) := rfl
  obtain ⟨b, off, rfl, hbB, hcell⟩ := hs.at (by omega) (by omega)
  have hcell0 : w.cell? ⟨b, off + a, none⟩ = some (.int .u8 ((l.getD a 0).toNat : Int)) := by
    refine hcell a _ ?_
    rw [bv_at l a (by omega), List.getD_eq_getElem?_getD, List.getElem?_eq_getElem (by omega)]
    rfl
  have HC := Lib.hid hcell
  have hm := UInt8.toNat_lt (l.getD a 0)
  generalize (l.getD a 0).toNat = m at *
  clear hcell
  have hmI : (m : Int) ≤ 255 := by omega
  by_cases hmk : m ≤ k
  · have hmkI : (m : Int) ≤ (k : Int) := by omega
    go_enter Try.func38, Try.ntmps38
    go_wp2
    go_loop [9] (fun j => ∃ t : Nat, t ≤ k - m ∧ j = .int .i64 ((m + t : Nat) : Int) ∧ ((seg l (a + 1 + m) (k - m)).take t).all (· == 0) = true) (fun j => k - (intOf j).toNat)
    case atStart => exact ⟨0, by omega, rfl, by simp⟩
    case round =>
      obtain ⟨t, ht, rfl, hall⟩ := hrel
      have HA := Lib.hid hall
      clear hall
      by_cases hlt : t < k - m
      · obtain ⟨x, hx, hx2⟩ := seg_at l (a + 1 + m) (k - m) t (by omega) hlt
        have hcell2 : w.cell? ⟨b, off + (a + 1 + (m + t)), none⟩ = some (.int .u8 (x.toNat : Int)) := by
          refine HC.out _ _ ?_
          rw [Nat.mul_one, Nat.mul_one, List.getElem?_take, if_pos hlt, List.getElem?_drop] at hx2
          rw [← hx2]
          congr 1
          omega
        have HX := Lib.hid hx
        clear hx2 hx
        by_cases h0 : x.toNat = 0
        · have h0b : ((x.toNat : Int) != 0) = false := by rw [h0]; rfl
          have HX0 := Lib.hid h0
          clear h0
          go_wp2
          go_round
          case measure => simp [intOf]; omega
          case rel => exact ⟨t + 1, by omega, by go_num, all_take_succ _ t x HX.out HX0.out HA.out⟩
        · have h0b : ((x.toNat : Int) != 0) = true := by rw [bne_iff_ne]; omega
          go_wp2
          go_ret2
          have hf : tB l a k = false := by rw [HB.out, all_not _ t x HX.out h0, Bool.and_false]
          rw [HS.out, hf]
          exact ⟨rfl, rfl⟩
      · have htk : t = k - m := by omega
        have HT := Lib.hid htk
        clear htk
        go_wp2_with (first
          | ((with_reducible show wpList _ _ _ (⟨some 64, _, _, _, _, _⟩ :: _) _ _); refine wpList_slice_sl rfl 23 _ _ _ _ rfl 5 i0 1 Try.underlying23 hi hz1 _ _ _ rfl (a + 1) m (c - (a + 1)) (.inr ⟨_, _, rfl, by omega⟩) (.inr ⟨_, _, rfl, by omega⟩) (.inl ⟨rfl, by omega⟩) (by omega) (by omega) (by omega) hs ?_; intro A2 hs2)
          | ((with_reducible show wpList _ _ _ (⟨some 65, _, _, _, _, _⟩ :: _) _ _); refine wpList_convert_sl rfl _ _ 5 _ rfl Try.underlying23 Try.underlying5 Try.underlying9 _ _ _ (seg l (a + 1) m) rfl hs2 (seg_cells l (a + 1) m) ?_))
        go_ret2
        have hf : tB l a k = true := by
          have h1 := HA.out
          rw [HT.out, seg_take _ _ _ _ (Nat.le_refl _)] at h1
          rw [HB.out, h1, Bool.and_true]
          simpa using hmk
        rw [HS.out, hf]
        exact ⟨rfl, rfl⟩
  · have hmkI : (k : Int) < (m : Int) := by omega
    have hf : tB l a k = false := by rw [HB.out, show decide (m ≤ k) = false from by simpa using hmk, Bool.false_and]
    have hf2 : tS l a k = [] := by rw [HS.out, hf]; rfl
    have HF := Lib.hid (And.intro hf hf2)
    clear hf hf2 hmk
    go_enter Try.func38, Try.ntmps38
    go_wp2
    go_ret2
    rw [HF.out.1, HF.out.2]
    exact ⟨rfl, rfl⟩

set_option maxHeartbeats 400000 in
theorem rgtext_no (A : Option Addr) (n c : Nat) (a k : Int) (w : World) (hc2 : n ≤ maxLen) (h : textBad n a k) (ha : -9223372036854775808 ≤ a) (ha2 : a ≤ 9223372036854775807) :
    Calls Try.prog 38 #[.slice A n c, .int .i64 a, .int .i64 k] w fun e w' => e = .returned (.tuple #[.string (str []), .bool false]) ∧ w = w' := by
  unfold maxLen at hc2
  have hn0 : (0 : Int) ≤ (n : Int) := by omega
  have hn1 : (n : Int) ≤ 9223372036854775807 := by omega
  have hcase : k < 0 ∨ (0 ≤ k ∧ 255 < k) ∨ (0 ≤ k ∧ k ≤ 255 ∧ a < 0) ∨ (0 ≤ k ∧ k ≤ 255 ∧ 0 ≤ a ∧ (n : Int) ≤ a) ∨ (0 ≤ k ∧ k ≤ 255 ∧ 0 ≤ a ∧ a < (n : Int) ∧ (n : Int) - a - 1 < k) := by
    unfold textBad at h
    omega
  clear h
  rcases hcase with h | ⟨h, h1⟩ | ⟨h, h1, h2⟩ | ⟨h, h1, h2, h3⟩ | ⟨h, h1, h2, h3, h4⟩
  all_goals
    go_enter Try.func38, Try.ntmps38
    go_wp2
    go_ret2
    exact ⟨rfl, rfl⟩
end Go.Proofs.Ytifbbbphoponcaa.Wi
