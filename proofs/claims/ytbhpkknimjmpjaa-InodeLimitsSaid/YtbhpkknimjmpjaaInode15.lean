/-
  inode.Blocks: how many blocks an inode has.
-/
import Derived.Test.YtbhpkknimjmpjaaPtrs
namespace Go.Proofs.Ytbhpkknimjmpjaa.In
open Go.RowKit Wd
set_option linter.unusedVariables false

set_option maxRecDepth 100000 in
set_option maxHeartbeats 800000 in
theorem blocks_any (xs : List Int) (hl : xs.length = 37) (w : World) : Calls Try.prog 16 #[.agg (ints xs)] w fun e w' => e = .returned (.int .i64 (cnt xs : Int)) ∧ Below w.heap.size w w' := by
  obtain ⟨C, hC⟩ : ∃ C, C = cnt xs := ⟨_, rfl⟩
  rw [← hC]
  obtain ⟨QO, hQO⟩ : ∃ QO, QO = xs.drop 5 := ⟨_, rfl⟩
  have HQL : Hid (QO.length = 32) := by show _ = _; rw [hQO, List.length_drop, hl]
  have HCE : Hid ((QO.filter fun p => !(p == 0)).length = C) := by rw [hQO, hC]; rfl
  have HQE := Lib.hid hQO
  have HL := Lib.hid hl
  clear hl hC hQO
  go_enter Try.func16, Try.ntmps16
  go_wp2_with (first
    | ((with_reducible show wpList _ _ _ (⟨some 1, _, _, _, _, _⟩ :: _) _ _); refine wpList_box_ino rfl _ rfl HL.out rfl ?_; intro w1 hr1 hb1 hlt1)
    | ((with_reducible show wpList _ _ _ (⟨some 7, _, _, _, _, _⟩ :: _) _ _); refine wpList_load_ptrs rfl _ rfl hr1 HL.out rfl ?_; rw [← HQE.out]))
  go_loopw [8, 3] (fun j c wr => ∃ k : Nat, k ≤ 32 ∧ j = .int .i64 (k : Int) ∧ ∃ n : Nat, c = .int .i64 (n : Int) ∧ n ≤ k ∧ n = ((QO.take k).filter fun p => !(p == 0)).length ∧ w1 = wr) (fun j _ _ => 32 - (intOf j).toNat)
  case atStart => exact ⟨0, by omega, rfl, 0, rfl, Nat.le_refl _, rfl, rfl⟩
  case round =>
    obtain ⟨k, hk, rfl, n, rfl, hnk, hn, rfl⟩ := hrel
    have HCN := Lib.hid hn
    clear hn
    by_cases hlt : k < 32
    · have hltI : (k : Int) < 32 := by omega
      obtain ⟨q, hq⟩ : ∃ q, QO[k]? = some q := ⟨_, List.getElem?_eq_getElem (by rw [HQL.out]; exact hlt)⟩
      have HCX := Lib.hid (cnt_next hq)
      rw [← HCN.out] at HCX
      have HQ := Lib.hid hq
      clear hq
      by_cases h0 : q = 0
      · rw [if_pos h0] at HCX
        have h0b : (q != 0) = false := by simp [h0]
        clear h0
        go_wp2_with ((with_reducible show wpList _ _ _ (⟨some 10, _, _, _, _, _⟩ :: _) _ _); refine wpList_index_ptrs rfl _ _ rfl k hlt _ HQ.out rfl rfl ?_)
        go_roundw
        case measure => simp [intOf]; omega
        case rel => exact ⟨k + 1, by omega, by simp, n, rfl, by omega, HCX.out.symm, by trivial⟩
      · rw [if_neg h0] at HCX
        have h0b : (q != 0) = true := by simp [h0]
        clear h0
        go_wp2_with ((with_reducible show wpList _ _ _ (⟨some 10, _, _, _, _, _⟩ :: _) _ _); refine wpList_index_ptrs rfl _ _ rfl k hlt _ HQ.out rfl rfl ?_)
        go_roundw
        case measure => simp [intOf]; omega
        case rel => exact ⟨k + 1, by omega, by simp, n + 1, by simp, by omega, HCX.out.symm, by trivial⟩
    · have hge : (32 : Int) ≤ (k : Int) := by omega
      have hnC : n = C := by
        rw [HCN.out, ← HCE.out, List.take_of_length_le (by rw [HQL.out]; omega)]
      subst hnC
      go_wp2
      go_ret
      exact ⟨rfl, hb1⟩
end Go.Proofs.Ytbhpkknimjmpjaa.In
