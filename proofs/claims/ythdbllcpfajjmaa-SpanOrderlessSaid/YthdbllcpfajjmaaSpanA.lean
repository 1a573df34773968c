/-
  span's laws: sums of what the list out of numbers comes to.
-/
import Derived.Test.YthdbllcpfajjmaaSpan6
namespace Go.Proofs.Ythdbllcpfajjmaa.Sp
open Fl Go.RowKit Ga Wd
set_option linter.unusedVariables false
theorem sumM_of {l : Ls} (h : ordM (-1) l = true) : sumM l = sumP l := by
  unfold sumM orderedB
  rw [if_pos h]
theorem nf_end (l : List Int) : ∀ p ∈ nf (listM l), p.1 + p.2 ≤ 219 := by
  obtain ⟨n1, n2, n3⟩ := nf_spec (list_st l)
  exact ends_le n1 (list_end l) n3
theorem nf_cnt (l : List Int) (n : Nat) (h : 219 ≤ n) : (cnt (inB (listM l)) n : Int) = sumP (nf (listM l)) := by
  obtain ⟨n1, n2, n3⟩ := nf_spec (list_st l)
  rw [← sum_cnt n1 n2 (n := n) fun p hp => by have := nf_end l p hp; omega, cnt_congr n fun x _ _ => n3 x]
theorem nf_sum (l : List Int) : sumP (nf (listM l)) ≤ 219 := by
  rw [← nf_cnt l 219 (Nat.le_refl _)]
  have := cnt_le (inB (listM l)) 219
  omega
end Go.Proofs.Ythdbllcpfajjmaa.Sp
