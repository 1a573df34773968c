/-
  No cell of these rows narrows 'for every input' (looked for: loops, veiled, ifaces, maps, wideKeys, modest, calm, conditions, laid).
  DERIVED. THE GIVEN ROWS OF THIS SEAT. 7 by the template 'for every input the law returns true; each argument reads behind the call as it read before'; 0 by the template 'total and deterministic' (their statements: YtpacmghekfkidaaTotals.lean).
  GIVEN WITH THE SEED: the statements are not yours to turn. If you find one false, say at which input.
  Laid BY PROGRAM, IN A SANDBOX (cutbox-rows.mjs): the forced cells as the released guide's own fill.sh prints them over the translation 3b99c0c95f25cebe… (all of the seat's roots in one cut). By AI agents, Wed Nov 11 2026. No macro, syntax, notation, axiom, sorry.
-/
import Derived.Test.YtpacmghekfkidaaChecked
import GoSem.Claim
import GoSem.ClaimJoined
import GoSem.ClaimMapViews
import Derived.JoinedTies
import Derived.KernelRfl
namespace Go.Proofs.Ytpacmghekfkidaa
/- THE CELL 'sum', in the pinned program and in every row, IS THE sha256 OF THE DUMP (.gsa) THAT YtpacmghekfkidaaProg.lean LOADS. Nothing in Lean hashes anything: it is a label: what it is worth is what the hold of that sum in a sandbox is worth. -/
noncomputable def Try.pinned : Pinned := { name := "ytpacmghekfkidaa", sum := "3b99c0c95f25cebeaba98cc10abb62d7b8381daa1d21e0025d3ed605e61e0625", checked := Try.checked }
namespace Rows
def none {H : Type} : Left H := { results := [], args := [] }

/-- 'pedigreelaw01.GaussDivides': WHATEVER THE INPUT: true; the input reads as it did. -/
def gaussDividesSpec : ChangeSpec := { name := "gaussDivides", fn := fun _ => fun
  | [d1, d2, d3, d4, d5, d6] => { results := [.lit (.bool true)], args := [d1, d2, d3, d4, d5, d6] }
  | _ => none }
def gaussDividesRow : OpenClaim := { program := "ytpacmghekfkidaa", sum := "3b99c0c95f25cebeaba98cc10abb62d7b8381daa1d21e0025d3ed605e61e0625", func := "pedigree/pedigreelaw01.GaussDivides", spec := "gaussDivides", inPlace := ["math.archTrunc", "math.Float64bits", "math.Float64frombits"], unfollowed := true, recurses := true, apart := false }
def GaussDividesSaid : Prop := gaussDividesRow.holds Try.pinned (OpenSpec.ofChange gaussDividesSpec)

/-- ITS FALSE NEIGHBOUR: 'it returns false'. Refute it at one input. -/
def gaussDividesWrong : ChangeSpec := { name := "gaussDivides", fn := fun _ => fun
  | [d1, d2, d3, d4, d5, d6] => { results := [.lit (.bool false)], args := [d1, d2, d3, d4, d5, d6] }
  | _ => none }
def GaussDividesWrongFalsely : Prop := gaussDividesRow.holds Try.pinned (OpenSpec.ofChange gaussDividesWrong)

/-- 'pedigreelaw01.GaussLeast': WHATEVER THE INPUT: true; the input reads as it did. -/
def gaussLeastSpec : ChangeSpec := { name := "gaussLeast", fn := fun _ => fun
  | [d1, d2, d3] => { results := [.lit (.bool true)], args := [d1, d2, d3] }
  | _ => none }
def gaussLeastRow : OpenClaim := { program := "ytpacmghekfkidaa", sum := "3b99c0c95f25cebeaba98cc10abb62d7b8381daa1d21e0025d3ed605e61e0625", func := "pedigree/pedigreelaw01.GaussLeast", spec := "gaussLeast", inPlace := ["math.archTrunc", "math.Float64bits", "math.Float64frombits"], apart := false }
def GaussLeastSaid : Prop := gaussLeastRow.holds Try.pinned (OpenSpec.ofChange gaussLeastSpec)

/-- ITS FALSE NEIGHBOUR: 'it returns false'. Refute it at one input. -/
def gaussLeastWrong : ChangeSpec := { name := "gaussLeast", fn := fun _ => fun
  | [d1, d2, d3] => { results := [.lit (.bool false)], args := [d1, d2, d3] }
  | _ => none }
def GaussLeastWrongFalsely : Prop := gaussLeastRow.holds Try.pinned (OpenSpec.ofChange gaussLeastWrong)

/-- 'pedigreelaw01.GaussRing': WHATEVER THE INPUT: true; the input reads as it did. -/
def gaussRingSpec : ChangeSpec := { name := "gaussRing", fn := fun _ => fun
  | [d1, d2, d3, d4, d5, d6] => { results := [.lit (.bool true)], args := [d1, d2, d3, d4, d5, d6] }
  | _ => none }
def gaussRingRow : OpenClaim := { program := "ytpacmghekfkidaa", sum := "3b99c0c95f25cebeaba98cc10abb62d7b8381daa1d21e0025d3ed605e61e0625", func := "pedigree/pedigreelaw01.GaussRing", spec := "gaussRing", inPlace := ["math.archTrunc", "math.Float64bits", "math.Float64frombits"], unfollowed := true, recurses := true, apart := false }
def GaussRingSaid : Prop := gaussRingRow.holds Try.pinned (OpenSpec.ofChange gaussRingSpec)

/-- ITS FALSE NEIGHBOUR: 'it returns false'. Refute it at one input. -/
def gaussRingWrong : ChangeSpec := { name := "gaussRing", fn := fun _ => fun
  | [d1, d2, d3, d4, d5, d6] => { results := [.lit (.bool false)], args := [d1, d2, d3, d4, d5, d6] }
  | _ => none }
def GaussRingWrongFalsely : Prop := gaussRingRow.holds Try.pinned (OpenSpec.ofChange gaussRingWrong)

/-- 'pedigreelaw01.GaussRest': WHATEVER THE INPUT: true; the input reads as it did. -/
def gaussRestSpec : ChangeSpec := { name := "gaussRest", fn := fun _ => fun
  | [d1, d2, d3, d4] => { results := [.lit (.bool true)], args := [d1, d2, d3, d4] }
  | _ => none }
def gaussRestRow : OpenClaim := { program := "ytpacmghekfkidaa", sum := "3b99c0c95f25cebeaba98cc10abb62d7b8381daa1d21e0025d3ed605e61e0625", func := "pedigree/pedigreelaw01.GaussRest", spec := "gaussRest", inPlace := ["math.archTrunc", "math.Float64bits", "math.Float64frombits"], unfollowed := true, recurses := true, apart := false }
def GaussRestSaid : Prop := gaussRestRow.holds Try.pinned (OpenSpec.ofChange gaussRestSpec)

/-- ITS FALSE NEIGHBOUR: 'it returns false'. Refute it at one input. -/
def gaussRestWrong : ChangeSpec := { name := "gaussRest", fn := fun _ => fun
  | [d1, d2, d3, d4] => { results := [.lit (.bool false)], args := [d1, d2, d3, d4] }
  | _ => none }
def GaussRestWrongFalsely : Prop := gaussRestRow.holds Try.pinned (OpenSpec.ofChange gaussRestWrong)

/-- 'pedigreelaw01.GaussTurns': WHATEVER THE INPUT: true; the input reads as it did. -/
def gaussTurnsSpec : ChangeSpec := { name := "gaussTurns", fn := fun _ => fun
  | [d1, d2, d3] => { results := [.lit (.bool true)], args := [d1, d2, d3] }
  | _ => none }
def gaussTurnsRow : OpenClaim := { program := "ytpacmghekfkidaa", sum := "3b99c0c95f25cebeaba98cc10abb62d7b8381daa1d21e0025d3ed605e61e0625", func := "pedigree/pedigreelaw01.GaussTurns", spec := "gaussTurns", inPlace := ["math.archTrunc", "math.Float64bits", "math.Float64frombits"], apart := false }
def GaussTurnsSaid : Prop := gaussTurnsRow.holds Try.pinned (OpenSpec.ofChange gaussTurnsSpec)

/-- ITS FALSE NEIGHBOUR: 'it returns false'. Refute it at one input. -/
def gaussTurnsWrong : ChangeSpec := { name := "gaussTurns", fn := fun _ => fun
  | [d1, d2, d3] => { results := [.lit (.bool false)], args := [d1, d2, d3] }
  | _ => none }
def GaussTurnsWrongFalsely : Prop := gaussTurnsRow.holds Try.pinned (OpenSpec.ofChange gaussTurnsWrong)

/-- 'pedigreelaw01.GaussNorms': WHATEVER THE INPUT: true; the input reads as it did. -/
def gaussNormsSpec : ChangeSpec := { name := "gaussNorms", fn := fun _ => fun
  | [d1, d2, d3, d4] => { results := [.lit (.bool true)], args := [d1, d2, d3, d4] }
  | _ => none }
def gaussNormsRow : OpenClaim := { program := "ytpacmghekfkidaa", sum := "3b99c0c95f25cebeaba98cc10abb62d7b8381daa1d21e0025d3ed605e61e0625", func := "pedigree/pedigreelaw01.GaussNorms", spec := "gaussNorms", inPlace := ["math.archTrunc", "math.Float64bits", "math.Float64frombits"], unfollowed := true, recurses := true, apart := false }
def GaussNormsSaid : Prop := gaussNormsRow.holds Try.pinned (OpenSpec.ofChange gaussNormsSpec)

/-- ITS FALSE NEIGHBOUR: 'it returns false'. Refute it at one input. -/
def gaussNormsWrong : ChangeSpec := { name := "gaussNorms", fn := fun _ => fun
  | [d1, d2, d3, d4] => { results := [.lit (.bool false)], args := [d1, d2, d3, d4] }
  | _ => none }
def GaussNormsWrongFalsely : Prop := gaussNormsRow.holds Try.pinned (OpenSpec.ofChange gaussNormsWrong)

/-- 'pedigreelaw01.GaussEnds': WHATEVER THE INPUT: true; the input reads as it did. -/
def gaussEndsSpec : ChangeSpec := { name := "gaussEnds", fn := fun _ => fun
  | [] => { results := [.lit (.bool true)], args := [] }
  | _ => none }
def gaussEndsRow : OpenClaim := { program := "ytpacmghekfkidaa", sum := "3b99c0c95f25cebeaba98cc10abb62d7b8381daa1d21e0025d3ed605e61e0625", func := "pedigree/pedigreelaw01.GaussEnds", spec := "gaussEnds", inPlace := ["math.archTrunc", "math.Float64bits", "math.Float64frombits"], apart := false }
def GaussEndsSaid : Prop := gaussEndsRow.holds Try.pinned (OpenSpec.ofChange gaussEndsSpec)

/-- ITS FALSE NEIGHBOUR: 'it returns false'. Refute it at one input. -/
def gaussEndsWrong : ChangeSpec := { name := "gaussEnds", fn := fun _ => fun
  | [] => { results := [.lit (.bool false)], args := [] }
  | _ => none }
def GaussEndsWrongFalsely : Prop := gaussEndsRow.holds Try.pinned (OpenSpec.ofChange gaussEndsWrong)

/- THE SECOND FORM. 'bulk': how many values and letters a reading holds, each counted each time it is reached (what is shared counts as often as it is met; a slice's spare places count too). A statement '..UptoSaid' is the law's where the arguments, and the package variables that the reading takes, are together of bulk at most 1048576: NARROWER than '..Said'. Prove '..Said' where nothing that the law and all that it calls make is longer than what came in: it says more and counts as full. Else prove '..UptoSaid'. A law counts once. -/
mutual
def uptoBulk {H : Type} : DataW H → Nat
  | .lit (.string bytes) => bytes.length + 1
  | .lit _ => 1
  | .nil => 1
  | .ptr d => uptoBulk d + 1
  | .slice elems spare => uptoBulkAll elems + uptoBulkAll spare + 1
  | .agg parts => uptoBulkAll parts + 1
  | .iface _ d => uptoBulk d + 1
  | .map entries => uptoBulkEntries entries + 1
  | .held _ => 1
def uptoBulkAll {H : Type} : List (DataW H) → Nat
  | [] => 0
  | d :: r => uptoBulk d + uptoBulkAll r
def uptoBulkEntries {H : Type} : List (Lit × DataW H) → Nat
  | [] => 0
  | x :: r => uptoBulkEntry x + uptoBulkEntries r
def uptoBulkEntry {H : Type} : Lit × DataW H → Nat
  | (.string bytes, d) => bytes.length + uptoBulk d + 1
  | (_, d) => uptoBulk d + 1
 end
def uptoSmall : (H : Type) → List (DataW H) → Bool := fun _ ds => decide (uptoBulkAll ds ≤ 1048576)
def OpenSpec.upto (s : _root_.Go.ChangeSpec) : _root_.Go.OpenSpec := { _root_.Go.OpenSpec.ofChange s with cond := some uptoSmall }

/-- 'pedigreelaw01.GaussDivides', WHERE WHAT IT READS IS OF BULK AT MOST 1048576: true; the input reads as it did. -/
def gaussDividesUptoRow : OpenClaim := { program := "ytpacmghekfkidaa", sum := "3b99c0c95f25cebeaba98cc10abb62d7b8381daa1d21e0025d3ed605e61e0625", func := "pedigree/pedigreelaw01.GaussDivides", spec := "gaussDivides", inPlace := ["math.archTrunc", "math.Float64bits", "math.Float64frombits"], unfollowed := true, recurses := true, apart := false, narrowed := true }
def GaussDividesUptoSaid : Prop := gaussDividesUptoRow.holds Try.pinned (OpenSpec.upto gaussDividesSpec)

/-- 'pedigreelaw01.GaussLeast', WHERE WHAT IT READS IS OF BULK AT MOST 1048576: true; the input reads as it did. -/
def gaussLeastUptoRow : OpenClaim := { program := "ytpacmghekfkidaa", sum := "3b99c0c95f25cebeaba98cc10abb62d7b8381daa1d21e0025d3ed605e61e0625", func := "pedigree/pedigreelaw01.GaussLeast", spec := "gaussLeast", inPlace := ["math.archTrunc", "math.Float64bits", "math.Float64frombits"], apart := false, narrowed := true }
def GaussLeastUptoSaid : Prop := gaussLeastUptoRow.holds Try.pinned (OpenSpec.upto gaussLeastSpec)

/-- 'pedigreelaw01.GaussRing', WHERE WHAT IT READS IS OF BULK AT MOST 1048576: true; the input reads as it did. -/
def gaussRingUptoRow : OpenClaim := { program := "ytpacmghekfkidaa", sum := "3b99c0c95f25cebeaba98cc10abb62d7b8381daa1d21e0025d3ed605e61e0625", func := "pedigree/pedigreelaw01.GaussRing", spec := "gaussRing", inPlace := ["math.archTrunc", "math.Float64bits", "math.Float64frombits"], unfollowed := true, recurses := true, apart := false, narrowed := true }
def GaussRingUptoSaid : Prop := gaussRingUptoRow.holds Try.pinned (OpenSpec.upto gaussRingSpec)

/-- 'pedigreelaw01.GaussRest', WHERE WHAT IT READS IS OF BULK AT MOST 1048576: true; the input reads as it did. -/
def gaussRestUptoRow : OpenClaim := { program := "ytpacmghekfkidaa", sum := "3b99c0c95f25cebeaba98cc10abb62d7b8381daa1d21e0025d3ed605e61e0625", func := "pedigree/pedigreelaw01.GaussRest", spec := "gaussRest", inPlace := ["math.archTrunc", "math.Float64bits", "math.Float64frombits"], unfollowed := true, recurses := true, apart := false, narrowed := true }
def GaussRestUptoSaid : Prop := gaussRestUptoRow.holds Try.pinned (OpenSpec.upto gaussRestSpec)

/-- 'pedigreelaw01.GaussTurns', WHERE WHAT IT READS IS OF BULK AT MOST 1048576: true; the input reads as it did. -/
def gaussTurnsUptoRow : OpenClaim := { program := "ytpacmghekfkidaa", sum := "3b99c0c95f25cebeaba98cc10abb62d7b8381daa1d21e0025d3ed605e61e0625", func := "pedigree/pedigreelaw01.GaussTurns", spec := "gaussTurns", inPlace := ["math.archTrunc", "math.Float64bits", "math.Float64frombits"], apart := false, narrowed := true }
def GaussTurnsUptoSaid : Prop := gaussTurnsUptoRow.holds Try.pinned (OpenSpec.upto gaussTurnsSpec)

/-- 'pedigreelaw01.GaussNorms', WHERE WHAT IT READS IS OF BULK AT MOST 1048576: true; the input reads as it did. -/
def gaussNormsUptoRow : OpenClaim := { program := "ytpacmghekfkidaa", sum := "3b99c0c95f25cebeaba98cc10abb62d7b8381daa1d21e0025d3ed605e61e0625", func := "pedigree/pedigreelaw01.GaussNorms", spec := "gaussNorms", inPlace := ["math.archTrunc", "math.Float64bits", "math.Float64frombits"], unfollowed := true, recurses := true, apart := false, narrowed := true }
def GaussNormsUptoSaid : Prop := gaussNormsUptoRow.holds Try.pinned (OpenSpec.upto gaussNormsSpec)

/-- 'pedigreelaw01.GaussEnds', WHERE WHAT IT READS IS OF BULK AT MOST 1048576: true; the input reads as it did. -/
def gaussEndsUptoRow : OpenClaim := { program := "ytpacmghekfkidaa", sum := "3b99c0c95f25cebeaba98cc10abb62d7b8381daa1d21e0025d3ed605e61e0625", func := "pedigree/pedigreelaw01.GaussEnds", spec := "gaussEnds", inPlace := ["math.archTrunc", "math.Float64bits", "math.Float64frombits"], apart := false, narrowed := true }
def GaussEndsUptoSaid : Prop := gaussEndsUptoRow.holds Try.pinned (OpenSpec.upto gaussEndsSpec)

end Rows
end Go.Proofs.Ytpacmghekfkidaa
