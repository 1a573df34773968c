/-
  Place: a number's place among n.
-/
import Derived.Test.YtndfkpajojbfkaaRows
import Derived.WalkKit
import Derived.Lib.Hide
namespace Go.Proofs.Ytndfkpajojbfkaa.Pl
open Go.RowKit
set_option linter.unusedVariables false

def placeZ (v n : Int) : Int := v % n
theorem place_eq (v n : Int) (hn : 1 ≤ n) : placeZ v n = if v.tmod n < 0 then v.tmod n + n else v.tmod n := by
  unfold placeZ
  have h := @Int.emod_eq_tmod v n
  have hnn : (n.natAbs : Int) = n := by omega
  by_cases hd : 0 ≤ v ∨ n ∣ v
  · rw [if_pos hd] at h
    have h2 := Int.emod_nonneg v (show n ≠ 0 by omega)
    rw [if_neg (by omega)]
    omega
  · rw [if_neg hd, hnn] at h
    have h2 := Int.emod_lt_of_pos v (show 0 < n by omega)
    rw [if_pos (by omega)]
    exact h
theorem place_bd (v n : Int) (hn : 1 ≤ n) : 0 ≤ placeZ v n ∧ placeZ v n < n := ⟨Int.emod_nonneg _ (by omega), Int.emod_lt_of_pos _ (by omega)⟩

set_option maxHeartbeats 400000 in
theorem place_any (v n : Int) (w : World) (hn : 1 ≤ n) (hn2 : n ≤ 1000000) (hv : -9223372036854775808 ≤ v) (hv2 : v ≤ 9223372036854775807) :
    Calls Try.prog 17 #[.int .i64 v, .int .i64 n] w fun e w' => e = .returned (.int .i64 (placeZ v n)) ∧ w = w' := by
  have h1 := Int.tmod_lt_of_pos v (show 0 < n by omega)
  have h2 := Int.lt_tmod_of_pos v (show 0 < n by omega)
  have HP := Lib.hid (place_eq v n hn)
  go_enter Try.func17, Try.ntmps17
  go_wp2
  all_goals go_ret
  · have h3 : v.tmod n < 0 := by assumption
    rw [HP.out, if_pos h3]
    exact ⟨rfl, rfl⟩
  · have h3 : 0 ≤ v.tmod n := by assumption
    rw [HP.out, if_neg (by omega)]
    exact ⟨rfl, rfl⟩
end Go.Proofs.Ytndfkpajojbfkaa.Pl
