/-
  No cell of these rows narrows 'for every input' (looked for: loops, veiled, ifaces, maps, wideKeys, modest, calm, conditions, laid).
  DERIVED. THE GIVEN ROWS OF THIS SEAT. 5 by the template 'for every input the law returns true; each argument reads behind the call as it read before'; 0 by the template 'total and deterministic' (their statements: YtgfhepfikphliaaTotals.lean).
  GIVEN WITH THE SEED: the statements are not yours to turn. If you find one false, say at which input.
  Laid BY PROGRAM, IN A SANDBOX (cutbox-rows.mjs): the forced cells as the released guide's own fill.sh prints them over the translation 1d0e6b4d4100a4a7… (all of the seat's roots in one cut). By AI agents, Wed Nov 11 2026. No macro, syntax, notation, axiom, sorry.
-/
import Derived.Test.YtgfhepfikphliaaChecked
import GoSem.Claim
import GoSem.ClaimJoined
import GoSem.ClaimMapViews
import Derived.JoinedTies
import Derived.KernelRfl
namespace Go.Proofs.Ytgfhepfikphliaa
/- THE CELL 'sum', in the pinned program and in every row, IS THE sha256 OF THE DUMP (.gsa) THAT YtgfhepfikphliaaProg.lean LOADS. Nothing in Lean hashes anything: it is a label: what it is worth is what the hold of that sum in a sandbox is worth. -/
noncomputable def Try.pinned : Pinned := { name := "ytgfhepfikphliaa", sum := "1d0e6b4d4100a4a7e2be296961b122e1950e6c3d99a8a0e9d776a7ea0291cd51", checked := Try.checked }
namespace Rows
def none {H : Type} : Left H := { results := [], args := [] }

/-- 'pedigreelaw22.AllocNexts': WHATEVER THE INPUT: true; the input reads as it did. -/
def allocNextsSpec : ChangeSpec := { name := "allocNexts", fn := fun _ => fun
  | [d1, d2, d3, d4] => { results := [.lit (.bool true)], args := [d1, d2, d3, d4] }
  | _ => none }
def allocNextsRow : OpenClaim := { program := "ytgfhepfikphliaa", sum := "1d0e6b4d4100a4a7e2be296961b122e1950e6c3d99a8a0e9d776a7ea0291cd51", func := "pedigree/pedigreelaw22.AllocNexts", spec := "allocNexts", apart := false }
def AllocNextsSaid : Prop := allocNextsRow.holds Try.pinned (OpenSpec.ofChange allocNextsSpec)

/-- ITS FALSE NEIGHBOUR: 'it returns false'. Refute it at one input. -/
def allocNextsWrong : ChangeSpec := { name := "allocNexts", fn := fun _ => fun
  | [d1, d2, d3, d4] => { results := [.lit (.bool false)], args := [d1, d2, d3, d4] }
  | _ => none }
def AllocNextsWrongFalsely : Prop := allocNextsRow.holds Try.pinned (OpenSpec.ofChange allocNextsWrong)

/-- 'pedigreelaw22.AllocKeeps': WHATEVER THE INPUT: true; the input reads as it did. -/
def allocKeepsSpec : ChangeSpec := { name := "allocKeeps", fn := fun _ => fun
  | [d1, d2, d3] => { results := [.lit (.bool true)], args := [d1, d2, d3] }
  | _ => none }
def allocKeepsRow : OpenClaim := { program := "ytgfhepfikphliaa", sum := "1d0e6b4d4100a4a7e2be296961b122e1950e6c3d99a8a0e9d776a7ea0291cd51", func := "pedigree/pedigreelaw22.AllocKeeps", spec := "allocKeeps", apart := false }
def AllocKeepsSaid : Prop := allocKeepsRow.holds Try.pinned (OpenSpec.ofChange allocKeepsSpec)

/-- ITS FALSE NEIGHBOUR: 'it returns false'. Refute it at one input. -/
def allocKeepsWrong : ChangeSpec := { name := "allocKeeps", fn := fun _ => fun
  | [d1, d2, d3] => { results := [.lit (.bool false)], args := [d1, d2, d3] }
  | _ => none }
def AllocKeepsWrongFalsely : Prop := allocKeepsRow.holds Try.pinned (OpenSpec.ofChange allocKeepsWrong)

/-- 'pedigreelaw22.AllocNew': WHATEVER THE INPUT: true; the input reads as it did. -/
def allocNewSpec : ChangeSpec := { name := "allocNew", fn := fun _ => fun
  | [d1, d2] => { results := [.lit (.bool true)], args := [d1, d2] }
  | _ => none }
def allocNewRow : OpenClaim := { program := "ytgfhepfikphliaa", sum := "1d0e6b4d4100a4a7e2be296961b122e1950e6c3d99a8a0e9d776a7ea0291cd51", func := "pedigree/pedigreelaw22.AllocNew", spec := "allocNew", apart := false }
def AllocNewSaid : Prop := allocNewRow.holds Try.pinned (OpenSpec.ofChange allocNewSpec)

/-- ITS FALSE NEIGHBOUR: 'it returns false'. Refute it at one input. -/
def allocNewWrong : ChangeSpec := { name := "allocNew", fn := fun _ => fun
  | [d1, d2] => { results := [.lit (.bool false)], args := [d1, d2] }
  | _ => none }
def AllocNewWrongFalsely : Prop := allocNewRow.holds Try.pinned (OpenSpec.ofChange allocNewWrong)

/-- 'pedigreelaw22.AllocPlans': WHATEVER THE INPUT: true; the input reads as it did. -/
def allocPlansSpec : ChangeSpec := { name := "allocPlans", fn := fun _ => fun
  | [d1, d2, d3, d4, d5] => { results := [.lit (.bool true)], args := [d1, d2, d3, d4, d5] }
  | _ => none }
def allocPlansRow : OpenClaim := { program := "ytgfhepfikphliaa", sum := "1d0e6b4d4100a4a7e2be296961b122e1950e6c3d99a8a0e9d776a7ea0291cd51", func := "pedigree/pedigreelaw22.AllocPlans", spec := "allocPlans", inPlace := ["math.archTrunc", "math.Float64bits", "math.Float64frombits"], apart := false }
def AllocPlansSaid : Prop := allocPlansRow.holds Try.pinned (OpenSpec.ofChange allocPlansSpec)

/-- ITS FALSE NEIGHBOUR: 'it returns false'. Refute it at one input. -/
def allocPlansWrong : ChangeSpec := { name := "allocPlans", fn := fun _ => fun
  | [d1, d2, d3, d4, d5] => { results := [.lit (.bool false)], args := [d1, d2, d3, d4, d5] }
  | _ => none }
def AllocPlansWrongFalsely : Prop := allocPlansRow.holds Try.pinned (OpenSpec.ofChange allocPlansWrong)

/-- 'pedigreelaw22.AllocCounts': WHATEVER THE INPUT: true; the input reads as it did. -/
def allocCountsSpec : ChangeSpec := { name := "allocCounts", fn := fun _ => fun
  | [d1, d2, d3] => { results := [.lit (.bool true)], args := [d1, d2, d3] }
  | _ => none }
def allocCountsRow : OpenClaim := { program := "ytgfhepfikphliaa", sum := "1d0e6b4d4100a4a7e2be296961b122e1950e6c3d99a8a0e9d776a7ea0291cd51", func := "pedigree/pedigreelaw22.AllocCounts", spec := "allocCounts", inPlace := ["math.archTrunc", "math.Float64bits", "math.Float64frombits"], apart := false }
def AllocCountsSaid : Prop := allocCountsRow.holds Try.pinned (OpenSpec.ofChange allocCountsSpec)

/-- ITS FALSE NEIGHBOUR: 'it returns false'. Refute it at one input. -/
def allocCountsWrong : ChangeSpec := { name := "allocCounts", fn := fun _ => fun
  | [d1, d2, d3] => { results := [.lit (.bool false)], args := [d1, d2, d3] }
  | _ => none }
def AllocCountsWrongFalsely : Prop := allocCountsRow.holds Try.pinned (OpenSpec.ofChange allocCountsWrong)

/- THE SECOND FORM. 'bulk': how many values and letters a reading holds, each counted each time it is reached (what is shared counts as often as it is met; a slice's spare places count too). A statement '..UptoSaid' is the law's where the arguments, and the package variables that the reading takes, are together of bulk at most 1048576: NARROWER than '..Said'. Prove '..Said' where nothing that the law and all that it calls make is longer than what came in: it says more and counts as full. Else prove '..UptoSaid'. A law counts once. -/
mutual
def uptoBulk {H : Type} : DataW H → Nat
  | .lit (.string bytes) => bytes.length + 1
  | .lit _ => 1
  | .nil => 1
  | .ptr d => uptoBulk d + 1
  | .slice elems spare => uptoBulkAll elems + uptoBulkAll spare + 1
  | .agg parts => uptoBulkAll parts + 1
  | .iface _ d => uptoBulk d + 1
  | .map entries => uptoBulkEntries entries + 1
  | .held _ => 1
def uptoBulkAll {H : Type} : List (DataW H) → Nat
  | [] => 0
  | d :: r => uptoBulk d + uptoBulkAll r
def uptoBulkEntries {H : Type} : List (Lit × DataW H) → Nat
  | [] => 0
  | x :: r => uptoBulkEntry x + uptoBulkEntries r
def uptoBulkEntry {H : Type} : Lit × DataW H → Nat
  | (.string bytes, d) => bytes.length + uptoBulk d + 1
  | (_, d) => uptoBulk d + 1
 end
def uptoSmall : (H : Type) → List (DataW H) → Bool := fun _ ds => decide (uptoBulkAll ds ≤ 1048576)
def OpenSpec.upto (s : _root_.Go.ChangeSpec) : _root_.Go.OpenSpec := { _root_.Go.OpenSpec.ofChange s with cond := some uptoSmall }

/-- 'pedigreelaw22.AllocNexts', WHERE WHAT IT READS IS OF BULK AT MOST 1048576: true; the input reads as it did. -/
def allocNextsUptoRow : OpenClaim := { program := "ytgfhepfikphliaa", sum := "1d0e6b4d4100a4a7e2be296961b122e1950e6c3d99a8a0e9d776a7ea0291cd51", func := "pedigree/pedigreelaw22.AllocNexts", spec := "allocNexts", apart := false, narrowed := true }
def AllocNextsUptoSaid : Prop := allocNextsUptoRow.holds Try.pinned (OpenSpec.upto allocNextsSpec)

/-- 'pedigreelaw22.AllocKeeps', WHERE WHAT IT READS IS OF BULK AT MOST 1048576: true; the input reads as it did. -/
def allocKeepsUptoRow : OpenClaim := { program := "ytgfhepfikphliaa", sum := "1d0e6b4d4100a4a7e2be296961b122e1950e6c3d99a8a0e9d776a7ea0291cd51", func := "pedigree/pedigreelaw22.AllocKeeps", spec := "allocKeeps", apart := false, narrowed := true }
def AllocKeepsUptoSaid : Prop := allocKeepsUptoRow.holds Try.pinned (OpenSpec.upto allocKeepsSpec)

/-- 'pedigreelaw22.AllocNew', WHERE WHAT IT READS IS OF BULK AT MOST 1048576: true; the input reads as it did. -/
def allocNewUptoRow : OpenClaim := { program := "ytgfhepfikphliaa", sum := "1d0e6b4d4100a4a7e2be296961b122e1950e6c3d99a8a0e9d776a7ea0291cd51", func := "pedigree/pedigreelaw22.AllocNew", spec := "allocNew", apart := false, narrowed := true }
def AllocNewUptoSaid : Prop := allocNewUptoRow.holds Try.pinned (OpenSpec.upto allocNewSpec)

/-- 'pedigreelaw22.AllocPlans', WHERE WHAT IT READS IS OF BULK AT MOST 1048576: true; the input reads as it did. -/
def allocPlansUptoRow : OpenClaim := { program := "ytgfhepfikphliaa", sum := "1d0e6b4d4100a4a7e2be296961b122e1950e6c3d99a8a0e9d776a7ea0291cd51", func := "pedigree/pedigreelaw22.AllocPlans", spec := "allocPlans", inPlace := ["math.archTrunc", "math.Float64bits", "math.Float64frombits"], apart := false, narrowed := true }
def AllocPlansUptoSaid : Prop := allocPlansUptoRow.holds Try.pinned (OpenSpec.upto allocPlansSpec)

/-- 'pedigreelaw22.AllocCounts', WHERE WHAT IT READS IS OF BULK AT MOST 1048576: true; the input reads as it did. -/
def allocCountsUptoRow : OpenClaim := { program := "ytgfhepfikphliaa", sum := "1d0e6b4d4100a4a7e2be296961b122e1950e6c3d99a8a0e9d776a7ea0291cd51", func := "pedigree/pedigreelaw22.AllocCounts", spec := "allocCounts", inPlace := ["math.archTrunc", "math.Float64bits", "math.Float64frombits"], apart := false, narrowed := true }
def AllocCountsUptoSaid : Prop := allocCountsUptoRow.holds Try.pinned (OpenSpec.upto allocCountsSpec)

end Rows
end Go.Proofs.Ytgfhepfikphliaa
