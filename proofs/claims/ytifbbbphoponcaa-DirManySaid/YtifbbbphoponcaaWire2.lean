/-
  The contracts of wire.Pad, of the copy of bytes, and of Place.
-/
import Derived.Test.YtifbbbphoponcaaWire1
namespace Go.Proofs.Ytifbbbphoponcaa.Wi
open Go.RowKit Wd
set_option linter.unusedVariables false

theorem pad_cells (l : List UInt8) (m : Nat) : List.map bv l ++ List.replicate m (Value.int .u8 0) = (l ++ List.replicate m 0).map bv := by
  simp
  exact .inr rfl

set_option maxHeartbeats 400000 in
theorem pad_no (A : Option Addr) (n c : Nat) (k : Int) (w : World) (h : k < (n : Int)) :
    Calls Try.prog 30 #[.slice A n c, .int .i64 k] w fun e w' => e = .returned (.tuple #[.slice A n c, .bool false]) ∧ w = w' := by
  go_enter Try.func30, Try.ntmps30
  go_wp2
  go_ret2
  exact ⟨rfl, rfl⟩

set_option maxHeartbeats 400000 in
theorem pad_yes (A : Option Addr) (l : List UInt8) (c : Nat) (k : Int) (w : World) (hs : Sl w w.heap.size 1 A l.length (l.map bv)) (hc : l.length ≤ c) (h : (l.length : Int) ≤ k) (hk : k ≤ 140737488355328) :
    Calls Try.prog 30 #[.slice A l.length c, .int .i64 k] w (Res2 w (l ++ List.replicate (k.toNat - l.length) 0) true) := by
  obtain ⟨i0, hi, hz0, hz1, hz2⟩ := info_parts infoB
  have hcI : (l.length : Int) ≤ (c : Int) := by omega
  have hm0 : Mine w w.heap.size 5 1 (.slice A l.length l.length) l.length (l.map bv) := Mine.full hs (by simp only [maxLen]; omega)
  obtain ⟨m, hm⟩ : ∃ m, m = k.toNat - l.length := ⟨_, rfl⟩
  have hm1 : (m : Int) = k - l.length := by omega
  have HM := Lib.hid hm1
  rw [← hm]
  clear hm hm1
  go_enter Try.func30, Try.ntmps30
  go_wp2_with (at_builtin; refine wpList_append_mine rfl (.tmp 16) (.tmp 20) _ _ rfl w.heap.size 5 i0 (.int .u8 0) 1 1 hz1 hz2 rfl (by decide) _ _ _ rfl hm0 _ m (List.replicate m (.int .u8 0)) rfl (Gives.zeros m (by have := HM.out; omega) .i64 Try.underlying23 Try.underlying3 hi hz0 rfl rfl hz1 (by have := HM.out; omega) (by have := HM.out; rw [hz2]; omega)) (by have := HM.out; simp only [maxLen]; omega) (by have := HM.out; omega) (Nat.le_refl _) ?_; intro A3 c3 w3 hm3 hg3 hb3 hat3 hown3)
  go_ret2
  exact res2_mine (e := 5) (B := w.heap.size) (by simp) (pad_cells l m) hm3 hb3

def ResM (w : World) (l : List UInt8) (e : Ending) (w' : World) : Prop :=
  ∃ A c, e = .returned (.slice A l.length c) ∧ Mine w' w.heap.size 5 1 (.slice A l.length c) l.length (l.map bv) ∧ Below w.heap.size w w'
set_option maxHeartbeats 400000 in
theorem bytes_any (A : Option Addr) (l : List UInt8) (c : Nat) (w : World) (hs : Sl w w.heap.size 1 A l.length (l.map bv)) (hc : l.length ≤ c) (hk : l.length ≤ 140737488355328) :
    Calls Try.prog 17 #[.slice A l.length c] w (ResM w l) := by
  obtain ⟨i0, hi, hz0, hz1, hz2⟩ := info_parts infoB
  go_enter Try.func17, Try.ntmps17
  go_wp2_with (at_builtin; refine wpList_append_mine rfl _ (.tmp 3) _ _ rfl w.heap.size 5 i0 (.int .u8 0) 1 1 hz1 hz2 rfl (by decide) _ _ _ rfl Mine.nil _ l.length (l.map bv) rfl (Gives.slice Try.underlying23 hi hz0 (by rw [hz1]; exact hs) (bv_one l)) (by simp only [maxLen]; omega) (by omega) (Nat.le_refl _) ?_; intro A3 c3 w3 hm3 hg3 hb3 hat3 hown3; simp only [Nat.zero_add, List.nil_append] at hm3)
  go_ret
  exact ⟨_, _, rfl, hm3, hb3⟩

def placeZ (v n : Int) : Int := v % n
theorem place_eq (v n : Int) (hn : 1 ≤ n) : placeZ v n = if v.tmod n < 0 then v.tmod n + n else v.tmod n := by
  unfold placeZ
  have h := @Int.emod_eq_tmod v n
  have hnn : (n.natAbs : Int) = n := by omega
  by_cases hd : 0 ≤ v ∨ n ∣ v
  · rw [if_pos hd] at h
    have h2 := Int.emod_nonneg v (show n ≠ 0 by omega)
    rw [if_neg (by omega)]
    omega
  · rw [if_neg hd, hnn] at h
    have h2 := Int.emod_lt_of_pos v (show 0 < n by omega)
    rw [if_pos (by omega)]
    exact h
theorem place_bd (v n : Int) (hn : 1 ≤ n) : 0 ≤ placeZ v n ∧ placeZ v n < n := ⟨Int.emod_nonneg _ (by omega), Int.emod_lt_of_pos _ (by omega)⟩

set_option maxHeartbeats 400000 in
theorem place_any (v n : Int) (w : World) (hn : 1 ≤ n) (hn2 : n ≤ 1000000) (hv : -9223372036854775808 ≤ v) (hv2 : v ≤ 9223372036854775807) :
    Calls Try.prog 24 #[.int .i64 v, .int .i64 n] w fun e w' => e = .returned (.int .i64 (placeZ v n)) ∧ w = w' := by
  have h1 := Int.tmod_lt_of_pos v (show 0 < n by omega)
  have h2 := Int.lt_tmod_of_pos v (show 0 < n by omega)
  have HP := Lib.hid (place_eq v n hn)
  go_enter Try.func24, Try.ntmps24
  go_wp2
  all_goals go_ret
  · have h3 : v.tmod n < 0 := by assumption
    rw [HP.out, if_pos h3]
    exact ⟨rfl, rfl⟩
  · have h3 : 0 ≤ v.tmod n := by assumption
    rw [HP.out, if_neg (by omega)]
    exact ⟨rfl, rfl⟩
end Go.Proofs.Ytifbbbphoponcaa.Wi
