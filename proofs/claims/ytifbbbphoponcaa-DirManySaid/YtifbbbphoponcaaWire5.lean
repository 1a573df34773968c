/-
  The contract of wire.GetText: the text that stands at a place.
-/
import Derived.Test.YtifbbbphoponcaaWire4
namespace Go.Proofs.Ytifbbbphoponcaa.Wi
open Go.RowKit Wd
set_option linter.unusedVariables false

def tB (l : List UInt8) (a k : Nat) : Bool := decide ((l.getD a 0).toNat ≤ k) && (seg l (a + 1 + (l.getD a 0).toNat) (k - (l.getD a 0).toNat)).all (· == 0)
def tS (l : List UInt8) (a k : Nat) : List UInt8 := if tB l a k then seg l (a + 1) (l.getD a 0).toNat else []
def textBad (n : Nat) (a k : Int) : Prop := k < 0 ∨ 255 < k ∨ a < 0 ∨ (n : Int) < a ∨ (n : Int) - a < k + 1

theorem seg_at (l : List UInt8) (a d t : Nat) (h : a + d ≤ l.length) (ht : t < d) : ∃ x : UInt8, (seg l a d)[t]? = some x ∧ (List.take (d * 1) (List.drop (a * 1) (l.map bv)))[t]? = some (.int .u8 (x.toNat : Int)) := by
  refine ⟨l[a + t], ?_, ?_⟩
  · unfold seg
    rw [List.getElem?_take, if_pos ht, List.getElem?_drop, List.getElem?_eq_getElem (by omega)]
  · rw [Nat.mul_one, Nat.mul_one, List.getElem?_take, if_pos ht, List.getElem?_drop, bv_at l (a + t) (by omega)]
    rfl
theorem seg_cells (l : List UInt8) (a d : Nat) : List.take (d * 1) (List.drop (a * 1) (l.map bv)) = (seg l a d).map bv := by
  unfold seg
  rw [Nat.mul_one, Nat.mul_one, List.map_take, List.map_drop]
theorem seg_take (l : List UInt8) (a d t : Nat) (ht : t ≤ d) : (seg l a d).take t = seg l a t := by
  unfold seg
  rw [List.take_take, Nat.min_eq_left ht]
theorem all_take_succ (x : List UInt8) (t : Nat) (y : UInt8) (h : x[t]? = some y) (hy : y.toNat = 0) (ha : (x.take t).all (· == 0) = true) : (x.take (t + 1)).all (· == 0) = true := by
  rw [List.take_add_one, h, List.all_append, ha]
  have : y = 0 := UInt8.toNat_inj.1 (by simpa using hy)
  simp [this]
theorem all_not (x : List UInt8) (t : Nat) (y : UInt8) (h : x[t]? = some y) (hy : y.toNat ≠ 0) : x.all (· == 0) = false := by
  rw [List.all_eq_false]
  refine ⟨y, List.mem_of_getElem? h, ?_⟩
  intro h0
  have : y = 0 := by simpa using h0
  subst this
  exact hy rfl

set_option maxHeartbeats 800000 in
theorem gtext_yes (A : Option Addr) (l : List UInt8) (c : Nat) (a k : Int) (w : World) (hs : Sl w w.heap.size 1 A l.length (l.map bv)) (hc : l.length ≤ c) (hc2 : c ≤ maxLen)
    (ha : 0 ≤ a) (hk : 0 ≤ k) (hk7 : k ≤ 255) (hak : a + k + 1 ≤ (l.length : Int)) :
    Calls Try.prog 33 #[.slice A l.length c, .int .i64 a, .int .i64 k] w fun e w' => e = .returned (.tuple #[.string (str (tS l a.toNat k.toNat)), .bool (tB l a.toNat k.toNat)]) ∧ w = w' := by
  unfold maxLen at hc2
  obtain ⟨i0, hi, hz0, hz1, hz2⟩ := info_parts infoB
  obtain ⟨a, rfl⟩ := Int.eq_ofNat_of_zero_le ha
  obtain ⟨k, rfl⟩ := Int.eq_ofNat_of_zero_le hk
  simp only [Int.toNat_natCast]
  have HB : Hid (tB l a k = (decide ((l.getD a 0).toNat ≤ k) && (seg l (a + 1 + (l.getD a 0).toNat) (k - (l.getD a 0).toNat)).all (· == 0))) := rfl
  have HS : Hid (tS l a k = if tB l a k then seg l (a + 1) (l.getD a 0).toNat else []) := rfl
  obtain ⟨b, off, rfl, hbB, hcell⟩ := hs.at (by omega) (by omega)
  have hcell0 : w.cell? ⟨b, off + a, none⟩ = some (.int .u8 ((l.getD a 0).toNat : Int)) := by
    refine hcell a _ ?_
    rw [bv_at l a (by omega), List.getD_eq_getElem?_getD, List.getElem?_eq_getElem (by omega)]
    rfl
  have hm := UInt8.toNat_lt (l.getD a 0)
  generalize (l.getD a 0).toNat = m at *
  clear hcell
  have hmI : (m : Int) ≤ 255 := by omega
  by_cases hmk : m ≤ k
  · have hmkI : (m : Int) ≤ (k : Int) := by omega
    go_enter Try.func33, Try.ntmps33
    go_wp2_with ((with_reducible show wpList _ _ _ (⟨some 59, _, _, _, _, _⟩ :: _) _ _); refine wpList_slice_sl rfl 23 _ _ _ _ rfl 5 i0 1 Try.underlying23 hi hz1 _ _ _ rfl (a + 1 + m) (k - m) (c - (a + 1 + m)) (.inr ⟨_, _, rfl, by omega⟩) (.inr ⟨_, _, rfl, by omega⟩) (.inl ⟨rfl, by omega⟩) (by omega) (by omega) (by omega) hs ?_; intro A1 hs1)
    go_loop [61] (fun j => ∃ t : Nat, t ≤ k - m ∧ j = .int .i64 (t : Int) ∧ ((seg l (a + 1 + m) (k - m)).take t).all (· == 0) = true) (fun j => k - (intOf j).toNat)
    case atStart => exact ⟨0, by omega, rfl, by simp⟩
    case round =>
      obtain ⟨t, ht, rfl, hall⟩ := hrel
      have HA := Lib.hid hall
      clear hall
      by_cases hlt : t < k - m
      · obtain ⟨b1, off1, rfl, hbB1, hcell1⟩ := hs1.at (by omega) (by omega)
        obtain ⟨x, hx, hx2⟩ := seg_at l (a + 1 + m) (k - m) t (by omega) hlt
        have hcell2 := hcell1 t _ hx2
        have HX := Lib.hid hx
        clear hcell1 hx2 hx hs1
        have hltI : (t : Int) < ((k - m : Nat) : Int) := by omega
        by_cases h0 : x.toNat = 0
        · have h0b : ((x.toNat : Int) != 0) = false := by rw [h0]; rfl
          have HX0 := Lib.hid h0
          clear h0
          go_wp2
          go_round
          case measure => simp [intOf]; omega
          case rel => exact ⟨t + 1, by omega, by go_num, all_take_succ _ t x HX.out HX0.out HA.out⟩
        · have h0b : ((x.toNat : Int) != 0) = true := by rw [bne_iff_ne]; omega
          go_wp2
          go_ret2
          have hf : tB l a k = false := by rw [HB.out, all_not _ t x HX.out h0, Bool.and_false]
          rw [HS.out, hf]
          exact ⟨rfl, rfl⟩
      · have htk : t = k - m := by omega
        have HT := Lib.hid htk
        have htI : ((k - m : Nat) : Int) ≤ (t : Int) := by omega
        clear htk
        go_wp2_with (first
          | ((with_reducible show wpList _ _ _ (⟨some 72, _, _, _, _, _⟩ :: _) _ _); refine wpList_slice_sl rfl 23 _ _ _ _ rfl 5 i0 1 Try.underlying23 hi hz1 _ _ _ rfl (a + 1) m (c - (a + 1)) (.inr ⟨_, _, rfl, by omega⟩) (.inr ⟨_, _, rfl, by omega⟩) (.inl ⟨rfl, by omega⟩) (by omega) (by omega) (by omega) hs ?_; intro A2 hs2)
          | ((with_reducible show wpList _ _ _ (⟨some 73, _, _, _, _, _⟩ :: _) _ _); refine wpList_convert_sl rfl _ _ 5 _ rfl Try.underlying23 Try.underlying5 Try.underlying9 _ _ _ (seg l (a + 1) m) rfl hs2 (seg_cells l (a + 1) m) ?_))
        go_ret2
        have hf : tB l a k = true := by
          have h1 := HA.out
          rw [HT.out, seg_take _ _ _ _ (Nat.le_refl _)] at h1
          rw [HB.out, h1, Bool.and_true]
          simpa using hmk
        rw [HS.out, hf]
        exact ⟨rfl, rfl⟩
  · have hmkI : (k : Int) < (m : Int) := by omega
    have hf : tB l a k = false := by rw [HB.out, show decide (m ≤ k) = false from by simpa using hmk, Bool.false_and]
    have hf2 : tS l a k = [] := by rw [HS.out, hf]; rfl
    have HF := Lib.hid (And.intro hf hf2)
    clear hf hf2 hmk
    go_enter Try.func33, Try.ntmps33
    go_wp2
    go_ret2
    rw [HF.out.1, HF.out.2]
    exact ⟨rfl, rfl⟩

set_option maxHeartbeats 400000 in
theorem gtext_no (A : Option Addr) (n c : Nat) (a k : Int) (w : World) (hc2 : n ≤ maxLen) (h : textBad n a k) (ha : -9223372036854775808 ≤ a) (ha2 : a ≤ 9223372036854775807) :
    Calls Try.prog 33 #[.slice A n c, .int .i64 a, .int .i64 k] w fun e w' => e = .returned (.tuple #[.string (str []), .bool false]) ∧ w = w' := by
  unfold maxLen at hc2
  have hn0 : (0 : Int) ≤ (n : Int) := by omega
  have hn1 : (n : Int) ≤ 9223372036854775807 := by omega
  have hcase : k < 0 ∨ (0 ≤ k ∧ 255 < k) ∨ (0 ≤ k ∧ k ≤ 255 ∧ a < 0) ∨ (0 ≤ k ∧ k ≤ 255 ∧ 0 ≤ a ∧ (n : Int) < a) ∨ (0 ≤ k ∧ k ≤ 255 ∧ 0 ≤ a ∧ a ≤ (n : Int) ∧ (n : Int) - a < k + 1) := by
    unfold textBad at h
    omega
  clear h
  rcases hcase with h | ⟨h, h1⟩ | ⟨h, h1, h2⟩ | ⟨h, h1, h2, h3⟩ | ⟨h, h1, h2, h3, h4⟩
  all_goals
    go_enter Try.func33, Try.ntmps33
    go_wp2
    go_ret2
    exact ⟨rfl, rfl⟩
end Go.Proofs.Ytifbbbphoponcaa.Wi
