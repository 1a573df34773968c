/-
  The contract of the law's awake: it answers true.
-/
import Derived.Test.YtbjfjbndekcboaaWire6
namespace Go.Proofs.Ytbjfjbndekcboaa.Wi
open Go.RowKit Wd
set_option linter.unusedVariables false
attribute [local go_sem] str_toList str_append str_size

set_option maxHeartbeats 400000 in
theorem awake_any (w : World) : Calls Try.prog 13 #[] w fun e w' => e = .returned (.bool true) ∧ Below w.heap.size w w' := by
  go_enter Try.func13, Try.ntmps13
  go_wp2_with (first
    | (go_at_call 10; refine (text_yes' none [] 0 ⟨#[97, 98]⟩ 3 w (Sl.nil _) (by simp) (by simp) (by omega) (by omega) (by decide)).mono ?_; rintro e w1 ⟨A1, c1, rfl, ho1, hb1⟩; have hs1 := Sl.own ho1)
    | (go_at_call 8; refine (put_any none [] 0 258 2 w1 (Sl.nil _) (by simp) (by simp) (by omega) (by omega) (by omega) (by omega)).mono ?_; rintro e w2 ⟨A2, c2, rfl, hs2, _, _, hb2⟩; have hs1' := hs1.on (Nat.le_refl _) hb2)
    | ((with_reducible show wpList _ _ _ (⟨some 8, _, _, _, _, _⟩ :: _) _ _); refine wpList_convert_sl rfl _ _ 5 _ rfl Try.underlying22 Try.underlying5 Try.underlying9 _ _ _ [2, 1] rfl hs2 (congrArg (List.map bv) (by decide)) ?_)
    | ((with_reducible show wpList _ _ _ (⟨some 15, _, _, _, _, _⟩ :: _) _ _); refine wpList_convert_sl rfl _ _ 5 _ rfl Try.underlying22 Try.underlying5 Try.underlying9 _ _ _ [2, 97, 98, 0] rfl hs1' (congrArg (List.map bv) (by decide)) ?_))
  go_ret
  exact ⟨rfl, hb1.trans (hb2.mono hb1.size)⟩
end Go.Proofs.Ytbjfjbndekcboaa.Wi
