/-
  chunk: Blocks, Size; the blocks that are touched, plain.
-/
import Derived.Test.YtndfkpajojbfkaaInts
import Derived.Test.YtndfkpajojbfkaaSpan0
namespace Go.Proofs.Ytndfkpajojbfkaa.Ck
open Go.RowKit Wd Is Sp Fl Ga
set_option linter.unusedVariables false

def blocksN (s : Int) : Int := if s ≤ 0 then 0 else (s - 1) / 128 + 1
theorem blocksN_bd (s : Int) (h : s ≤ 9223372036854775807) : 0 ≤ blocksN s ∧ blocksN s ≤ 72057594037927936 := by unfold blocksN; split <;> omega
set_option maxHeartbeats 400000 in
theorem blocks_any (s : Int) (w : World) (h0 : -9223372036854775808 ≤ s) (h1 : s ≤ 9223372036854775807) : Calls Try.prog 13 #[.int .i64 s] w fun e w' => e = .returned (.int .i64 (blocksN s)) ∧ w = w' := by
  by_cases h : s ≤ 0
  · have e : blocksN s = 0 := if_pos h
    have HE := Lib.hid e
    clear e
    go_enter Try.func13, Try.ntmps13
    go_wp2
    go_ret
    rw [HE.out]
    exact ⟨rfl, rfl⟩
  · have e : blocksN s = (s - 1) / 128 + 1 := if_neg h
    have HE := Lib.hid e
    clear e
    go_enter Try.func13, Try.ntmps13
    go_wp2
    go_ret
    rw [HE.out]
    exact ⟨rfl, rfl⟩
set_option maxHeartbeats 400000 in
theorem rblocks_any (s : Int) (w : World) (h0 : -9223372036854775808 ≤ s) (h1 : s ≤ 9223372036854775807) : Calls Try.prog 14 #[.int .i64 s] w fun e w' => e = .returned (.int .i64 (blocksN s)) ∧ w = w' := by
  by_cases h : s ≤ 0
  · have e : blocksN s = 0 := if_pos h
    have HE := Lib.hid e
    clear e
    go_enter Try.func14, Try.ntmps14
    go_wp2
    go_ret
    rw [HE.out]
    exact ⟨rfl, rfl⟩
  · have e : blocksN s = (s - 1) / 128 + 1 := if_neg h
    have HE := Lib.hid e
    clear e
    by_cases hr : 0 < s % 128
    · have HQ : Hid (s / 128 + 1 = (s - 1) / 128 + 1) := by show _ = _; omega
      go_enter Try.func14, Try.ntmps14
      go_wp2
      go_ret
      rw [HE.out, ← HQ.out]
      exact ⟨rfl, rfl⟩
    · have HQ : Hid (s / 128 = (s - 1) / 128 + 1) := by show _ = _; omega
      have hr2 : s % 128 ≤ 0 := by omega
      go_enter Try.func14, Try.ntmps14
      go_wp2
      go_ret
      rw [HE.out, ← HQ.out]
      exact ⟨rfl, rfl⟩

/-! ### pointers within the row -/

/-- may a write be -/
def May (s a n : Int) : Prop := 0 ≤ s ∧ s ≤ 4096 ∧ 0 ≤ a ∧ a ≤ 4096 ∧ 0 ≤ n ∧ n ≤ 4096 - a
instance (s a n : Int) : Decidable (May s a n) := by unfold May; infer_instance
def sizeZ (s a n : Int) : Int := if n = 0 then s else max s (a + n)
def sizeV (s a n : Int) : Value := if May s a n then .tuple #[.int .i64 (sizeZ s a n), .bool true] else .tuple #[.int .i64 0, .bool false]
/-- the n blocks from f on -/
def run (f n : Nat) : List Int := (List.range n).map fun i => ((f + i : Nat) : Int)
theorem run_len (f n : Nat) : (run f n).length = n := by simp [run]
theorem run_succ (f n : Nat) : run f (n + 1) = run f n ++ [((f + n : Nat) : Int)] := by simp [run, List.range_succ]
theorem run_zero (f : Nat) : run f 0 = [] := rfl
theorem run_get (f n i : Nat) (h : i < n) : (run f n)[i]? = some ((f + i : Nat) : Int) := by simp [run, h]
/-- how many blocks n bytes from a on touch -/
def cnt (a n : Nat) : Nat := if n = 0 then 0 else (a + n - 1) / 128 - a / 128 + 1
def touched (a n : Nat) : List Int := run (a / 128) (cnt a n)
theorem cnt_succ (a n : Nat) : cnt a (n + 1) = if n = 0 ∨ (a + n) / 128 ≠ (a + n - 1) / 128 then cnt a n + 1 else cnt a n := by
  unfold cnt
  split <;> split <;> split <;> omega
theorem touched_more (a n : Nat) (h : n = 0 ∨ (a + n) / 128 ≠ (a + n - 1) / 128) : touched a (n + 1) = touched a n ++ [(((a + n) / 128 : Nat) : Int)] := by
  unfold touched
  rw [cnt_succ, if_pos h, run_succ]
  congr 3
  unfold cnt
  split <;> omega
theorem touched_same (a n : Nat) (h : ¬ (n = 0 ∨ (a + n) / 128 ≠ (a + n - 1) / 128)) : touched a (n + 1) = touched a n := by
  unfold touched
  rw [cnt_succ, if_neg h]
theorem touched_last (a n : Nat) (h : 0 < n) : (touched a n)[(touched a n).length - 1]? = some ((((a + n - 1) / 128 : Nat)) : Int) := by
  unfold touched
  have hc : cnt a n = (a + n - 1) / 128 - a / 128 + 1 := by unfold cnt; rw [if_neg (by omega)]
  rw [run_len, run_get _ _ _ (by omega), hc]
  congr 2
  omega
theorem cnt_le (a n : Nat) (ha : a + n ≤ 4096) : cnt a n ≤ 33 := by unfold cnt; split <;> omega
theorem touched_len (a n : Nat) : (touched a n).length = cnt a n := run_len _ _
end Go.Proofs.Ytndfkpajojbfkaa.Ck
