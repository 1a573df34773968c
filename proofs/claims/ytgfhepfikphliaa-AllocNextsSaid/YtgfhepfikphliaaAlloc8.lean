/-
  The document's Next, of anything.
-/
import Derived.Test.YtgfhepfikphliaaAlloc5
import Derived.Test.YtgfhepfikphliaaAlloc6
import Derived.Test.YtgfhepfikphliaaAlloc7
namespace Go.Proofs.Ytgfhepfikphliaa.Al
open Go.RowKit Wd In
set_option linter.unusedVariables false

theorem rnext_any (old now ps ts : List Int) (Ap At : Option Addr) (cp ct : Nat) (w : World) (hold : old.length = 37) (hnow : now.length = 37) (hbn : ∀ x ∈ now, -9223372036854775808 ≤ x ∧ x ≤ 9223372036854775807)
    (hps : Sl w w.heap.size 1 Ap ps.length (ps.map (Value.int .i64))) (hts : Sl w w.heap.size 1 At ts.length (ts.map (Value.int .i64))) (hbig : ps.length ≤ 140737488355328) :
    Calls Try.prog 11 #[.agg (ints old), .agg (ints now), .slice Ap ps.length cp, .slice At ts.length ct] w (NextR w (nextM old now ps ts)) := by
  cases h : chkL old
  · exact rnext_bad old now ps ts Ap At cp ct w hold hnow (.inl h)
  · by_cases hl : ps.length = ts.length
    · by_cases h0 : now.getD 0 0 = 0
      · exact rnext_none old now ps ts Ap At cp ct w hold hnow h hl hbn hps hts hbig h0
      · by_cases h64 : now.getD 1 0 ≤ 3968
        · exact rnext_few old now ps ts Ap At cp ct w hold hnow h hl hbn hps hts hbig h0 h64
        · exact rnext_many old now ps ts Ap At cp ct w hold hnow h hl hbn hps hts hbig h0 (by omega)
    · exact rnext_bad old now ps ts Ap At cp ct w hold hnow (.inr ⟨h, hl⟩)
end Go.Proofs.Ytgfhepfikphliaa.Al
