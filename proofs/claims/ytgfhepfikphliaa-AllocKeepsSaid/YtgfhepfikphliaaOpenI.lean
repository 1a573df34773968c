/-
  An inode that comes in, as 37 numbers.
-/
import Derived.Test.YtgfhepfikphliaaOpen
import Derived.Test.YtgfhepfikphliaaInode0
namespace Go.Proofs.Ytgfhepfikphliaa.In
open Go.RowKit Wd Go.ChangeShapes Go.WideShapes
set_option linter.unusedVariables false

theorem inoTypes : Try.prog.cellTypes Try.prog.depth 24 = some (List.replicate 37 3) := by kernel_rfl
theorem inoCells : Try.prog.cellsOf 24 = 37 := by kernel_rfl
theorem open_ino {W : World} {r : Reach} {base : Nat} {v : Value} (h : Value.okWide Try.prog W r base 24 v) :
    ∃ xs : List Int, v = .agg (ints xs) ∧ xs.length = 37 ∧ ∀ x ∈ xs, -9223372036854775808 ≤ x ∧ x ≤ 9223372036854775807 := by
  simp only [Value.okWide, Try.underlying24] at h
  obtain ⟨cs, rfl, hsz, ts, hts, _, hc⟩ := h
  rw [inoCells] at hsz
  rw [inoTypes] at hts
  injection hts with hts
  subst hts
  have hcell : ∀ (i : Nat) (v : Value), cs[i]? = some v → ∃ x : Int, v = .int .i64 x ∧ -9223372036854775808 ≤ x ∧ x ≤ 9223372036854775807 := by
    intro i v hv
    obtain ⟨u, hu, hk⟩ := hc i v hv
    have hue : u = 3 := by
      rw [List.length_replicate, List.getElem?_replicate] at hu
      split at hu
      · exact (Option.some.inj hu).symm
      · cases hu
    subst hue
    simp only [Cell.okWide, Try.underlying3] at hk
    cases v <;> simp only [Cell.ok, Try.underlying3] at hk
    obtain ⟨rfl, hk⟩ := hk
    exact ⟨_, rfl, by simpa [IntKind.has, IntKind.min, IntKind.max, IntKind.signed, IntKind.bits] using hk⟩
  refine ⟨cs.toList.map intOf, ?_, by simp [hsz], ?_⟩
  · congr 1
    apply Array.ext
    · simp [ints]
    · intro i h1 h2
      obtain ⟨x, hx, _⟩ := hcell i cs[i] (Array.getElem?_eq_getElem h1)
      simp [ints, hx, intOf]
  · intro x hx
    obtain ⟨v, hv, rfl⟩ := List.mem_map.1 hx
    obtain ⟨i, hi⟩ := List.getElem?_of_mem hv
    obtain ⟨x, hx, hb⟩ := hcell i v (by simpa using hi)
    rw [hx]
    exact hb
end Go.Proofs.Ytgfhepfikphliaa.In
