/-
  No cell of these rows narrows 'for every input' (looked for: loops, veiled, ifaces, maps, wideKeys, modest, calm, conditions, laid).
  DERIVED. THE GIVEN ROWS OF THIS SEAT. 6 by the template 'for every input the law returns true; each argument reads behind the call as it read before'; 0 by the template 'total and deterministic' (their statements: YtipdaecihfkonaaTotals.lean).
  GIVEN WITH THE SEED: the statements are not yours to turn. If you find one false, say at which input.
  Laid BY PROGRAM, IN A SANDBOX (cutbox-rows.mjs): the forced cells as the released guide's own fill.sh prints them over the translation 2c14b629078d0a56… (all of the seat's roots in one cut). By AI agents, Wed Nov 11 2026. No macro, syntax, notation, axiom, sorry.
-/
import Derived.Test.YtipdaecihfkonaaChecked
import GoSem.Claim
import GoSem.ClaimJoined
import GoSem.ClaimMapViews
import Derived.JoinedTies
import Derived.KernelRfl
namespace Go.Proofs.Ytipdaecihfkonaa
/- THE CELL 'sum', in the pinned program and in every row, IS THE sha256 OF THE DUMP (.gsa) THAT YtipdaecihfkonaaProg.lean LOADS. Nothing in Lean hashes anything: it is a label: what it is worth is what the hold of that sum in a sandbox is worth. -/
noncomputable def Try.pinned : Pinned := { name := "ytipdaecihfkonaa", sum := "2c14b629078d0a56c65534dd6ae61855dcb8deaca4f05e5734e0d8cd3d102e5e", checked := Try.checked }
namespace Rows
def none {H : Type} : Left H := { results := [], args := [] }

/-- 'pedigreelaw06.BitsSets': WHATEVER THE INPUT: true; the input reads as it did. -/
def bitsSetsSpec : ChangeSpec := { name := "bitsSets", fn := fun _ => fun
  | [d1, d2, d3, d4] => { results := [.lit (.bool true)], args := [d1, d2, d3, d4] }
  | _ => none }
def bitsSetsRow : OpenClaim := { program := "ytipdaecihfkonaa", sum := "2c14b629078d0a56c65534dd6ae61855dcb8deaca4f05e5734e0d8cd3d102e5e", func := "pedigree/pedigreelaw06.BitsSets", spec := "bitsSets", inPlace := ["math.archTrunc", "math.Float64bits", "math.Float64frombits"], apart := false }
def BitsSetsSaid : Prop := bitsSetsRow.holds Try.pinned (OpenSpec.ofChange bitsSetsSpec)

/-- ITS FALSE NEIGHBOUR: 'it returns false'. Refute it at one input. -/
def bitsSetsWrong : ChangeSpec := { name := "bitsSets", fn := fun _ => fun
  | [d1, d2, d3, d4] => { results := [.lit (.bool false)], args := [d1, d2, d3, d4] }
  | _ => none }
def BitsSetsWrongFalsely : Prop := bitsSetsRow.holds Try.pinned (OpenSpec.ofChange bitsSetsWrong)

/-- 'pedigreelaw06.BitsUndoes': WHATEVER THE INPUT: true; the input reads as it did. -/
def bitsUndoesSpec : ChangeSpec := { name := "bitsUndoes", fn := fun _ => fun
  | [d1, d2, d3] => { results := [.lit (.bool true)], args := [d1, d2, d3] }
  | _ => none }
def bitsUndoesRow : OpenClaim := { program := "ytipdaecihfkonaa", sum := "2c14b629078d0a56c65534dd6ae61855dcb8deaca4f05e5734e0d8cd3d102e5e", func := "pedigree/pedigreelaw06.BitsUndoes", spec := "bitsUndoes", inPlace := ["math.archTrunc", "math.Float64bits", "math.Float64frombits"], apart := false }
def BitsUndoesSaid : Prop := bitsUndoesRow.holds Try.pinned (OpenSpec.ofChange bitsUndoesSpec)

/-- ITS FALSE NEIGHBOUR: 'it returns false'. Refute it at one input. -/
def bitsUndoesWrong : ChangeSpec := { name := "bitsUndoes", fn := fun _ => fun
  | [d1, d2, d3] => { results := [.lit (.bool false)], args := [d1, d2, d3] }
  | _ => none }
def BitsUndoesWrongFalsely : Prop := bitsUndoesRow.holds Try.pinned (OpenSpec.ofChange bitsUndoesWrong)

/-- 'pedigreelaw06.BitsNew': WHATEVER THE INPUT: true; the input reads as it did. -/
def bitsNewSpec : ChangeSpec := { name := "bitsNew", fn := fun _ => fun
  | [d1, d2] => { results := [.lit (.bool true)], args := [d1, d2] }
  | _ => none }
def bitsNewRow : OpenClaim := { program := "ytipdaecihfkonaa", sum := "2c14b629078d0a56c65534dd6ae61855dcb8deaca4f05e5734e0d8cd3d102e5e", func := "pedigree/pedigreelaw06.BitsNew", spec := "bitsNew", inPlace := ["math.archTrunc", "math.Float64bits", "math.Float64frombits"], apart := false }
def BitsNewSaid : Prop := bitsNewRow.holds Try.pinned (OpenSpec.ofChange bitsNewSpec)

/-- ITS FALSE NEIGHBOUR: 'it returns false'. Refute it at one input. -/
def bitsNewWrong : ChangeSpec := { name := "bitsNew", fn := fun _ => fun
  | [d1, d2] => { results := [.lit (.bool false)], args := [d1, d2] }
  | _ => none }
def BitsNewWrongFalsely : Prop := bitsNewRow.holds Try.pinned (OpenSpec.ofChange bitsNewWrong)

/-- 'pedigreelaw06.BitsAll': WHATEVER THE INPUT: true; the input reads as it did. -/
def bitsAllSpec : ChangeSpec := { name := "bitsAll", fn := fun _ => fun
  | [d1, d2, d3, d4] => { results := [.lit (.bool true)], args := [d1, d2, d3, d4] }
  | _ => none }
def bitsAllRow : OpenClaim := { program := "ytipdaecihfkonaa", sum := "2c14b629078d0a56c65534dd6ae61855dcb8deaca4f05e5734e0d8cd3d102e5e", func := "pedigree/pedigreelaw06.BitsAll", spec := "bitsAll", inPlace := ["math.archTrunc", "math.Float64bits", "math.Float64frombits"], apart := false }
def BitsAllSaid : Prop := bitsAllRow.holds Try.pinned (OpenSpec.ofChange bitsAllSpec)

/-- ITS FALSE NEIGHBOUR: 'it returns false'. Refute it at one input. -/
def bitsAllWrong : ChangeSpec := { name := "bitsAll", fn := fun _ => fun
  | [d1, d2, d3, d4] => { results := [.lit (.bool false)], args := [d1, d2, d3, d4] }
  | _ => none }
def BitsAllWrongFalsely : Prop := bitsAllRow.holds Try.pinned (OpenSpec.ofChange bitsAllWrong)

/-- 'pedigreelaw06.BitsCounts': WHATEVER THE INPUT: true; the input reads as it did. -/
def bitsCountsSpec : ChangeSpec := { name := "bitsCounts", fn := fun _ => fun
  | [d1, d2, d3] => { results := [.lit (.bool true)], args := [d1, d2, d3] }
  | _ => none }
def bitsCountsRow : OpenClaim := { program := "ytipdaecihfkonaa", sum := "2c14b629078d0a56c65534dd6ae61855dcb8deaca4f05e5734e0d8cd3d102e5e", func := "pedigree/pedigreelaw06.BitsCounts", spec := "bitsCounts", inPlace := ["math.archTrunc", "math.Float64bits", "math.Float64frombits"], apart := false }
def BitsCountsSaid : Prop := bitsCountsRow.holds Try.pinned (OpenSpec.ofChange bitsCountsSpec)

/-- ITS FALSE NEIGHBOUR: 'it returns false'. Refute it at one input. -/
def bitsCountsWrong : ChangeSpec := { name := "bitsCounts", fn := fun _ => fun
  | [d1, d2, d3] => { results := [.lit (.bool false)], args := [d1, d2, d3] }
  | _ => none }
def BitsCountsWrongFalsely : Prop := bitsCountsRow.holds Try.pinned (OpenSpec.ofChange bitsCountsWrong)

/-- 'pedigreelaw06.BitsTakes': WHATEVER THE INPUT: true; the input reads as it did. -/
def bitsTakesSpec : ChangeSpec := { name := "bitsTakes", fn := fun _ => fun
  | [d1, d2] => { results := [.lit (.bool true)], args := [d1, d2] }
  | _ => none }
def bitsTakesRow : OpenClaim := { program := "ytipdaecihfkonaa", sum := "2c14b629078d0a56c65534dd6ae61855dcb8deaca4f05e5734e0d8cd3d102e5e", func := "pedigree/pedigreelaw06.BitsTakes", spec := "bitsTakes", inPlace := ["math.archTrunc", "math.Float64bits", "math.Float64frombits"], apart := false }
def BitsTakesSaid : Prop := bitsTakesRow.holds Try.pinned (OpenSpec.ofChange bitsTakesSpec)

/-- ITS FALSE NEIGHBOUR: 'it returns false'. Refute it at one input. -/
def bitsTakesWrong : ChangeSpec := { name := "bitsTakes", fn := fun _ => fun
  | [d1, d2] => { results := [.lit (.bool false)], args := [d1, d2] }
  | _ => none }
def BitsTakesWrongFalsely : Prop := bitsTakesRow.holds Try.pinned (OpenSpec.ofChange bitsTakesWrong)

/- THE SECOND FORM. 'bulk': how many values and letters a reading holds, each counted each time it is reached (what is shared counts as often as it is met; a slice's spare places count too). A statement '..UptoSaid' is the law's where the arguments, and the package variables that the reading takes, are together of bulk at most 1048576: NARROWER than '..Said'. Prove '..Said' where nothing that the law and all that it calls make is longer than what came in: it says more and counts as full. Else prove '..UptoSaid'. A law counts once. -/
mutual
def uptoBulk {H : Type} : DataW H → Nat
  | .lit (.string bytes) => bytes.length + 1
  | .lit _ => 1
  | .nil => 1
  | .ptr d => uptoBulk d + 1
  | .slice elems spare => uptoBulkAll elems + uptoBulkAll spare + 1
  | .agg parts => uptoBulkAll parts + 1
  | .iface _ d => uptoBulk d + 1
  | .map entries => uptoBulkEntries entries + 1
  | .held _ => 1
def uptoBulkAll {H : Type} : List (DataW H) → Nat
  | [] => 0
  | d :: r => uptoBulk d + uptoBulkAll r
def uptoBulkEntries {H : Type} : List (Lit × DataW H) → Nat
  | [] => 0
  | x :: r => uptoBulkEntry x + uptoBulkEntries r
def uptoBulkEntry {H : Type} : Lit × DataW H → Nat
  | (.string bytes, d) => bytes.length + uptoBulk d + 1
  | (_, d) => uptoBulk d + 1
 end
def uptoSmall : (H : Type) → List (DataW H) → Bool := fun _ ds => decide (uptoBulkAll ds ≤ 1048576)
def OpenSpec.upto (s : _root_.Go.ChangeSpec) : _root_.Go.OpenSpec := { _root_.Go.OpenSpec.ofChange s with cond := some uptoSmall }

/-- 'pedigreelaw06.BitsSets', WHERE WHAT IT READS IS OF BULK AT MOST 1048576: true; the input reads as it did. -/
def bitsSetsUptoRow : OpenClaim := { program := "ytipdaecihfkonaa", sum := "2c14b629078d0a56c65534dd6ae61855dcb8deaca4f05e5734e0d8cd3d102e5e", func := "pedigree/pedigreelaw06.BitsSets", spec := "bitsSets", inPlace := ["math.archTrunc", "math.Float64bits", "math.Float64frombits"], apart := false, narrowed := true }
def BitsSetsUptoSaid : Prop := bitsSetsUptoRow.holds Try.pinned (OpenSpec.upto bitsSetsSpec)

/-- 'pedigreelaw06.BitsUndoes', WHERE WHAT IT READS IS OF BULK AT MOST 1048576: true; the input reads as it did. -/
def bitsUndoesUptoRow : OpenClaim := { program := "ytipdaecihfkonaa", sum := "2c14b629078d0a56c65534dd6ae61855dcb8deaca4f05e5734e0d8cd3d102e5e", func := "pedigree/pedigreelaw06.BitsUndoes", spec := "bitsUndoes", inPlace := ["math.archTrunc", "math.Float64bits", "math.Float64frombits"], apart := false, narrowed := true }
def BitsUndoesUptoSaid : Prop := bitsUndoesUptoRow.holds Try.pinned (OpenSpec.upto bitsUndoesSpec)

/-- 'pedigreelaw06.BitsNew', WHERE WHAT IT READS IS OF BULK AT MOST 1048576: true; the input reads as it did. -/
def bitsNewUptoRow : OpenClaim := { program := "ytipdaecihfkonaa", sum := "2c14b629078d0a56c65534dd6ae61855dcb8deaca4f05e5734e0d8cd3d102e5e", func := "pedigree/pedigreelaw06.BitsNew", spec := "bitsNew", inPlace := ["math.archTrunc", "math.Float64bits", "math.Float64frombits"], apart := false, narrowed := true }
def BitsNewUptoSaid : Prop := bitsNewUptoRow.holds Try.pinned (OpenSpec.upto bitsNewSpec)

/-- 'pedigreelaw06.BitsAll', WHERE WHAT IT READS IS OF BULK AT MOST 1048576: true; the input reads as it did. -/
def bitsAllUptoRow : OpenClaim := { program := "ytipdaecihfkonaa", sum := "2c14b629078d0a56c65534dd6ae61855dcb8deaca4f05e5734e0d8cd3d102e5e", func := "pedigree/pedigreelaw06.BitsAll", spec := "bitsAll", inPlace := ["math.archTrunc", "math.Float64bits", "math.Float64frombits"], apart := false, narrowed := true }
def BitsAllUptoSaid : Prop := bitsAllUptoRow.holds Try.pinned (OpenSpec.upto bitsAllSpec)

/-- 'pedigreelaw06.BitsCounts', WHERE WHAT IT READS IS OF BULK AT MOST 1048576: true; the input reads as it did. -/
def bitsCountsUptoRow : OpenClaim := { program := "ytipdaecihfkonaa", sum := "2c14b629078d0a56c65534dd6ae61855dcb8deaca4f05e5734e0d8cd3d102e5e", func := "pedigree/pedigreelaw06.BitsCounts", spec := "bitsCounts", inPlace := ["math.archTrunc", "math.Float64bits", "math.Float64frombits"], apart := false, narrowed := true }
def BitsCountsUptoSaid : Prop := bitsCountsUptoRow.holds Try.pinned (OpenSpec.upto bitsCountsSpec)

/-- 'pedigreelaw06.BitsTakes', WHERE WHAT IT READS IS OF BULK AT MOST 1048576: true; the input reads as it did. -/
def bitsTakesUptoRow : OpenClaim := { program := "ytipdaecihfkonaa", sum := "2c14b629078d0a56c65534dd6ae61855dcb8deaca4f05e5734e0d8cd3d102e5e", func := "pedigree/pedigreelaw06.BitsTakes", spec := "bitsTakes", inPlace := ["math.archTrunc", "math.Float64bits", "math.Float64frombits"], apart := false, narrowed := true }
def BitsTakesUptoSaid : Prop := bitsTakesUptoRow.holds Try.pinned (OpenSpec.upto bitsTakesSpec)

end Rows
end Go.Proofs.Ytipdaecihfkonaa
