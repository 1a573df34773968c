/-
  'ChunkWhole' walked: a file that is written block by block is the file that was written.
-/
import Derived.Test.YtndfkpajojbfkaaChunkWholeS
import Derived.Test.YtndfkpajojbfkaaChunkWholeL
namespace Go.Proofs.Ytndfkpajojbfkaa.Ck
open Go.RowKit Wd Is Sp Fl Ga By We
set_option linter.unusedVariables false

theorem whole_walk (Ac : Option Addr) (content : List UInt8) (cc : Nat) (Aa : Option Addr) (ats : List Int) (ca : Nat) (Ad : Option Addr) (rows : List (List UInt8)) (cd : Nat) (w : World)
    (hcont : Sl w w.heap.size 1 Ac content.length (content.map bv)) (hccap : content.length ≤ cc) (hcb : content.length ≤ 140737488355328)
    (hats : Sl w w.heap.size 1 Aa ats.length (ats.map (Value.int .i64))) (hac : ats.length ≤ ca) (hab : ats.length ≤ 17592186044416) (hatb : ∀ x ∈ ats, -9223372036854775808 ≤ x ∧ x ≤ 9223372036854775807)
    (hrows : Rows2 w Ad rows) (hrc : rows.length ≤ cd) (hrb : rows.length ≤ 17592186044416) :
    Calls Try.prog 6 #[.slice Ac content.length cc, .slice Aa ats.length ca, .slice Ad rows.length cd] w fun e w' => e = .returned (.bool true) ∧ Below w.heap.size w w' := by
  by_cases h : content.length ≤ 1000
  · exact whole_short Ac content cc Aa ats ca Ad rows cd w hcont hccap hcb hats hab hatb hrows hrb h
  · exact whole_long Ac content cc Aa ats ca Ad rows cd w hcont hccap hcb hats hab hatb hrows hrb (by omega)
end Go.Proofs.Ytndfkpajojbfkaa.Ck
