/-
  For 'AllocKeeps': has an inode a block?
-/
import Derived.Test.YtgfhepfikphliaaAlloc3
namespace Go.Proofs.Ytgfhepfikphliaa.Al
open Go.RowKit Wd In
set_option linter.unusedVariables false

def hasTo (xs : List Int) (b : Int) (n : Nat) : Bool := (List.range n).any fun k => xs.getD (5 + k) 0 == b
def hasP (xs : List Int) (b : Int) : Bool := hasTo xs b 32
theorem hasTo_succ (xs : List Int) (b : Int) (n : Nat) : hasTo xs b (n + 1) = (hasTo xs b n || xs.getD (5 + n) 0 == b) := by simp [hasTo, List.range_succ]
theorem hasTo_le {xs : List Int} {b : Int} {n m : Nat} (h : hasTo xs b n = true) (hm : n ≤ m) : hasTo xs b m = true := by
  unfold hasTo at *
  obtain ⟨k, hk, h2⟩ := List.any_eq_true.1 h
  exact List.any_eq_true.2 ⟨k, by rw [List.mem_range] at *; omega, h2⟩
theorem has_any (xs : List Int) (b : Int) (w : World) (hl : xs.length = 37) :
    Calls Try.prog 15 #[.agg (ints xs), .int .i64 b] w fun e w' => e = .returned (.bool (hasP xs b)) ∧ Below w.heap.size w w' := by
  have HL := Lib.hid hl
  go_enter Try.func15, Try.ntmps15
  go_wp2_with ((with_reducible show wpList _ _ _ (⟨some 2, _, _, _, _, _⟩ :: _) _ _); refine wpList_box_ino rfl _ rfl HL.out rfl ?_; intro w1 hr1 hb1 hlt1; clear hl; have HR1 := Lib.hid hr1; have HB1 := Lib.hid hb1; clear hr1 hb1)
  go_loop [5] (fun i => ∃ k : Nat, k ≤ 32 ∧ i = .int .i64 (k : Int) ∧ hasTo xs b k = false) (fun i => 32 - (intOf i).toNat)
  case atStart => exact ⟨0, by omega, rfl, rfl⟩
  case round =>
    obtain ⟨k, hk, rfl, hno⟩ := hrel
    have HNO := Lib.hid hno
    clear hno
    by_cases hlt : k < 32
    · have hltI : (k : Int) < 32 := by omega
      have hk0 : (0 : Int) ≤ (k : Int) := by omega
      obtain ⟨v, hv⟩ : ∃ v, xs[5 + k]? = some v := ⟨_, List.getElem?_eq_getElem (by have := HL.out; omega)⟩
      have hcell := HR1.out.cell (5 + k) v hv
      have HST : Hid (hasTo xs b (k + 1) = (v == b)) := Lib.hid (by rw [hasTo_succ, HNO.out, List.getD_eq_getElem?_getD, hv]; rfl)
      clear hv
      by_cases he : v = b
      · subst he
        have HH : Hid (hasP xs v = true) := Lib.hid (hasTo_le (by rw [HST.out]; simp) (show k + 1 ≤ 32 by omega))
        go_wp2_with fail
        go_ret
        exact ⟨by rw [HH.out] <;> rfl, HB1.out⟩
      · have HN2 : Hid (hasTo xs b (k + 1) = false) := Lib.hid (by rw [HST.out]; simpa using he)
        have heb : (v == b) = false := by simpa using he
        clear he
        go_wp2_with fail
        go_round
        case rel => exact ⟨k + 1, by omega, by go_num, HN2.out⟩
        case measure => simp [intOf]; omega
    · have hge : (32 : Int) ≤ (k : Int) := by omega
      obtain rfl : k = 32 := by omega
      have HH : Hid (hasP xs b = false) := Lib.hid HNO.out
      go_wp2_with fail
      go_ret
      exact ⟨by rw [HH.out] <;> rfl, HB1.out⟩
end Go.Proofs.Ytgfhepfikphliaa.Al
