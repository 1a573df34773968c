/-
  The law's awake: it answers true.
-/
import Derived.Test.YtbhpkknimjmpjaaInode10
import Derived.Test.YtbhpkknimjmpjaaInode11
import Derived.Test.YtbhpkknimjmpjaaMake
namespace Go.Proofs.Ytbhpkknimjmpjaa.In
open Go.RowKit Wd Wi
set_option linter.unusedVariables false
attribute [local go_sem] str_toList str_append str_size

theorem iput_zero (w : World) : Calls Try.prog 12 #[.agg (ints zIno)] w fun e w' => ∃ A c, e = .returned (.tuple #[.slice A 128 c, .bool true]) ∧ Below w.heap.size w w' := by
  refine (iputL_yes zIno_len chk_zero w).mono ?_
  rintro e w1 ⟨A1, c1, rfl, hs1, _, _, hb1⟩
  exact ⟨A1, c1, by rw [blk_len zIno_len], hb1⟩
theorem iget_zero (A : Option Addr) (w : World) (hs : Sl w w.heap.size 1 A 128 ((List.replicate 128 (0 : UInt8)).map bv)) :
    Calls Try.prog 9 #[.slice A 128 128] w fun e w' => e = .returned (.tuple #[.agg (ints zIno), .bool true]) ∧ Below w.heap.size w w' := by
  have hl : (List.replicate 128 (0 : UInt8)).length = 128 := List.length_replicate
  have := iget_any A (List.replicate 128 (0 : UInt8)) 128 w (by rw [hl]; decide) (by rw [hl]; exact hs) (by rw [hl]; decide) (by decide)
  rw [hl] at this
  refine this.mono ?_
  rintro e w1 ⟨rfl, hb⟩
  rw [getV_zero, isIno_zero]
  exact ⟨rfl, hb⟩

set_option maxRecDepth 100000 in
set_option maxHeartbeats 800000 in
theorem awake_any (w : World) : Calls Try.prog 11 #[] w fun e w' => e = .returned (.bool true) ∧ Below w.heap.size w w' := by
  have hcheck := fun w' => checkL zIno_len w'
  rw [chk_zero] at hcheck
  have HC := Lib.hid hcheck
  clear hcheck
  go_enter Try.func11, Try.ntmps11
  go_wp2_with (first
    | ((with_reducible show wpList _ _ _ (⟨some 6, _, _, _, _, _⟩ :: _) _ _); refine wpList_build_ino rfl rfl ?_)
    | (go_at_call 12; refine (iput_zero _).mono ?_; rintro e w1 ⟨A1, c1, rfl, hb1⟩)
    | ((with_reducible show wpList _ _ _ (⟨some 11, _, _, _, _, _⟩ :: _) _ _); refine wpList_make_bytes rfl _ _ rfl 128 (by decide) rfl rfl ?_; intro w2 ho2 hb2 hlt2)
    | (go_at_call 9; refine (iget_zero _ _ (Sl.own ho2)).mono ?_; rintro e w3 ⟨rfl, hb3⟩)
    | ((with_reducible show wpList _ _ _ (⟨some 3, _, _, _, _, _⟩ :: _) _ _); refine wpList_alloc_ino rfl rfl ?_; intro w4 hr4 hb4 hlt4)
    | ((with_reducible show wpList _ _ _ (⟨none, _, _, _, _, _⟩ :: _) _ _); refine wpList_store_ino rfl _ _ rfl hr4 zIno_len zIno_len rfl rfl ?_; intro w5 hr5 ho5)
    | ((with_reducible show wpList _ _ _ (⟨some 25, _, _, _, _, _⟩ :: _) _ _); refine wpList_load_ino rfl _ rfl hr5 zIno_len rfl ?_)
    | ((with_reducible show wpList _ _ _ (⟨some 26, _, _, _, _, _⟩ :: _) _ _); refine wpList_build_ino rfl rfl ?_)
    | ((with_reducible show wpList _ _ _ (⟨some 27, _, _, _, _, _⟩ :: _) _ _); refine wpList_eql_ino rfl rfl zIno zIno rfl rfl zIno_len zIno_len ?_)
    | ((with_reducible show wpList _ _ _ (⟨some 30, _, _, _, _, _⟩ :: _) _ _); refine wpList_load_ino rfl _ rfl hr5 zIno_len rfl ?_)
    | (go_at_call 14; refine (HC.out _).mono ?_; rintro e w6 ⟨rfl, hb6⟩))
  go_ret
  have k2 := hb1.trans (hb2.mono hb1.size)
  have k3 := k2.trans (hb3.mono k2.size)
  have k4 := k3.trans (hb4.mono k3.size)
  have k5 := ho5.below k4 k3.size
  exact ⟨by simp, k5.trans (hb6.mono k5.size)⟩
end Go.Proofs.Ytbhpkknimjmpjaa.In
