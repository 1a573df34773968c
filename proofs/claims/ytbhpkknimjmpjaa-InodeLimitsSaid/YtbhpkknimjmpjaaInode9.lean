/-
  inode.Get of any bytes: the walk.
-/
import Derived.Test.YtbhpkknimjmpjaaInode8
namespace Go.Proofs.Ytbhpkknimjmpjaa.In
open Go.RowKit Wd Wi
set_option linter.unusedVariables false

set_option maxRecDepth 100000 in
set_option maxHeartbeats 800000 in
theorem iget_short (A : Option Addr) (l : List UInt8) (c : Nat) (w : World) (hlen : l.length ≠ 128) (hl : l.length ≤ 140737488355328) :
    Calls Try.prog 9 #[.slice A l.length c] w (GetR w l) := by
  have hno : isIno l = false := by simp [isIno, hlen]
  have hne : ((l.length : Int) != 128) = true := by simp; omega
  unfold GetR getV
  rw [hno]
  have HD := Lib.hid hlen
  clear hlen hno
  go_enter Try.func9, Try.ntmps9
  go_wp2_with (first
    | ((with_reducible show wpList _ _ _ (⟨some 2, _, _, _, _, _⟩ :: _) _ _); refine wpList_alloc_ino rfl rfl ?_; intro w1 hr1 hb1 hlt1)
    | ((with_reducible show wpList _ _ _ (⟨some 11, _, _, _, _, _⟩ :: _) _ _); refine wpList_build_ino rfl rfl ?_)
    | ((with_reducible show wpList _ _ _ (⟨none, _, _, _, _, _⟩ :: _) _ _); refine wpList_store_ino rfl _ _ rfl hr1 zIno_len zIno_len rfl rfl ?_; intro w2 hr2 ho2))
  (try simp only [Exit.inBlock, Exit.then])
  refine bodyPost_ret (results_ino rfl hr2 zIno_len _ rfl) rfl ?_
  exact ⟨rfl, ho2.below hb1 (Nat.le_refl _)⟩

end Go.Proofs.Ytbhpkknimjmpjaa.In
