/-
  No cell of these rows narrows 'for every input' (looked for: loops, veiled, ifaces, maps, wideKeys, modest, calm, conditions, laid).
  DERIVED. THE GIVEN ROWS OF THIS SEAT. 6 by the template 'for every input the law returns true; each argument reads behind the call as it read before'; 0 by the template 'total and deterministic' (their statements: YthdbllcpfajjmaaTotals.lean).
  GIVEN WITH THE SEED: the statements are not yours to turn. If you find one false, say at which input.
  Laid BY PROGRAM, IN A SANDBOX (cutbox-rows.mjs): the forced cells as the released guide's own fill.sh prints them over the translation cdfbee5214aa7094… (all of the seat's roots in one cut). By AI agents, Wed Nov 11 2026. No macro, syntax, notation, axiom, sorry.
-/
import Derived.Test.YthdbllcpfajjmaaChecked
import GoSem.Claim
import GoSem.ClaimJoined
import GoSem.ClaimMapViews
import Derived.JoinedTies
import Derived.KernelRfl
namespace Go.Proofs.Ythdbllcpfajjmaa
/- THE CELL 'sum', in the pinned program and in every row, IS THE sha256 OF THE DUMP (.gsa) THAT YthdbllcpfajjmaaProg.lean LOADS. Nothing in Lean hashes anything: it is a label: what it is worth is what the hold of that sum in a sandbox is worth. -/
noncomputable def Try.pinned : Pinned := { name := "ythdbllcpfajjmaa", sum := "cdfbee5214aa709423a887fe0cf1008ba5cdff7d91e5933d131f91d7d6a7b9f0", checked := Try.checked }
namespace Rows
def none {H : Type} : Left H := { results := [], args := [] }

/-- 'pedigreelaw02.SpanMakesBack': WHATEVER THE INPUT: true; the input reads as it did. -/
def spanMakesBackSpec : ChangeSpec := { name := "spanMakesBack", fn := fun _ => fun
  | [d1, d2] => { results := [.lit (.bool true)], args := [d1, d2] }
  | _ => none }
def spanMakesBackRow : OpenClaim := { program := "ythdbllcpfajjmaa", sum := "cdfbee5214aa709423a887fe0cf1008ba5cdff7d91e5933d131f91d7d6a7b9f0", func := "pedigree/pedigreelaw02.SpanMakesBack", spec := "spanMakesBack", inPlace := ["math.archTrunc", "math.Float64bits", "math.Float64frombits"], unfollowed := true, recurses := true, apart := false }
def SpanMakesBackSaid : Prop := spanMakesBackRow.holds Try.pinned (OpenSpec.ofChange spanMakesBackSpec)

/-- ITS FALSE NEIGHBOUR: 'it returns false'. Refute it at one input. -/
def spanMakesBackWrong : ChangeSpec := { name := "spanMakesBack", fn := fun _ => fun
  | [d1, d2] => { results := [.lit (.bool false)], args := [d1, d2] }
  | _ => none }
def SpanMakesBackWrongFalsely : Prop := spanMakesBackRow.holds Try.pinned (OpenSpec.ofChange spanMakesBackWrong)

/-- 'pedigreelaw02.SpanOrderless': WHATEVER THE INPUT: true; the input reads as it did. -/
def spanOrderlessSpec : ChangeSpec := { name := "spanOrderless", fn := fun _ => fun
  | [d1, d2, d3] => { results := [.lit (.bool true)], args := [d1, d2, d3] }
  | _ => none }
def spanOrderlessRow : OpenClaim := { program := "ythdbllcpfajjmaa", sum := "cdfbee5214aa709423a887fe0cf1008ba5cdff7d91e5933d131f91d7d6a7b9f0", func := "pedigree/pedigreelaw02.SpanOrderless", spec := "spanOrderless", inPlace := ["math.archTrunc", "math.Float64bits", "math.Float64frombits"], unfollowed := true, recurses := true, apart := false }
def SpanOrderlessSaid : Prop := spanOrderlessRow.holds Try.pinned (OpenSpec.ofChange spanOrderlessSpec)

/-- ITS FALSE NEIGHBOUR: 'it returns false'. Refute it at one input. -/
def spanOrderlessWrong : ChangeSpec := { name := "spanOrderless", fn := fun _ => fun
  | [d1, d2, d3] => { results := [.lit (.bool false)], args := [d1, d2, d3] }
  | _ => none }
def SpanOrderlessWrongFalsely : Prop := spanOrderlessRow.holds Try.pinned (OpenSpec.ofChange spanOrderlessWrong)

/-- 'pedigreelaw02.SpanApart': WHATEVER THE INPUT: true; the input reads as it did. -/
def spanApartSpec : ChangeSpec := { name := "spanApart", fn := fun _ => fun
  | [d] => { results := [.lit (.bool true)], args := [d] }
  | _ => none }
def spanApartRow : OpenClaim := { program := "ythdbllcpfajjmaa", sum := "cdfbee5214aa709423a887fe0cf1008ba5cdff7d91e5933d131f91d7d6a7b9f0", func := "pedigree/pedigreelaw02.SpanApart", spec := "spanApart", inPlace := ["math.archTrunc", "math.Float64bits", "math.Float64frombits"], unfollowed := true, recurses := true, apart := false }
def SpanApartSaid : Prop := spanApartRow.holds Try.pinned (OpenSpec.ofChange spanApartSpec)

/-- ITS FALSE NEIGHBOUR: 'it returns false'. Refute it at one input. -/
def spanApartWrong : ChangeSpec := { name := "spanApart", fn := fun _ => fun
  | [d] => { results := [.lit (.bool false)], args := [d] }
  | _ => none }
def SpanApartWrongFalsely : Prop := spanApartRow.holds Try.pinned (OpenSpec.ofChange spanApartWrong)

/-- 'pedigreelaw02.SpanPlaces': WHATEVER THE INPUT: true; the input reads as it did. -/
def spanPlacesSpec : ChangeSpec := { name := "spanPlaces", fn := fun _ => fun
  | [d] => { results := [.lit (.bool true)], args := [d] }
  | _ => none }
def spanPlacesRow : OpenClaim := { program := "ythdbllcpfajjmaa", sum := "cdfbee5214aa709423a887fe0cf1008ba5cdff7d91e5933d131f91d7d6a7b9f0", func := "pedigree/pedigreelaw02.SpanPlaces", spec := "spanPlaces", inPlace := ["math.archTrunc", "math.Float64bits", "math.Float64frombits"], unfollowed := true, recurses := true, apart := false }
def SpanPlacesSaid : Prop := spanPlacesRow.holds Try.pinned (OpenSpec.ofChange spanPlacesSpec)

/-- ITS FALSE NEIGHBOUR: 'it returns false'. Refute it at one input. -/
def spanPlacesWrong : ChangeSpec := { name := "spanPlaces", fn := fun _ => fun
  | [d] => { results := [.lit (.bool false)], args := [d] }
  | _ => none }
def SpanPlacesWrongFalsely : Prop := spanPlacesRow.holds Try.pinned (OpenSpec.ofChange spanPlacesWrong)

/-- 'pedigreelaw02.SpanCutsInto': WHATEVER THE INPUT: true; the input reads as it did. -/
def spanCutsIntoSpec : ChangeSpec := { name := "spanCutsInto", fn := fun _ => fun
  | [d1, d2, d3] => { results := [.lit (.bool true)], args := [d1, d2, d3] }
  | _ => none }
def spanCutsIntoRow : OpenClaim := { program := "ythdbllcpfajjmaa", sum := "cdfbee5214aa709423a887fe0cf1008ba5cdff7d91e5933d131f91d7d6a7b9f0", func := "pedigree/pedigreelaw02.SpanCutsInto", spec := "spanCutsInto", inPlace := ["math.archTrunc", "math.Float64bits", "math.Float64frombits"], unfollowed := true, recurses := true, apart := false }
def SpanCutsIntoSaid : Prop := spanCutsIntoRow.holds Try.pinned (OpenSpec.ofChange spanCutsIntoSpec)

/-- ITS FALSE NEIGHBOUR: 'it returns false'. Refute it at one input. -/
def spanCutsIntoWrong : ChangeSpec := { name := "spanCutsInto", fn := fun _ => fun
  | [d1, d2, d3] => { results := [.lit (.bool false)], args := [d1, d2, d3] }
  | _ => none }
def SpanCutsIntoWrongFalsely : Prop := spanCutsIntoRow.holds Try.pinned (OpenSpec.ofChange spanCutsIntoWrong)

/-- 'pedigreelaw02.SpanParts': WHATEVER THE INPUT: true; the input reads as it did. -/
def spanPartsSpec : ChangeSpec := { name := "spanParts", fn := fun _ => fun
  | [d1, d2] => { results := [.lit (.bool true)], args := [d1, d2] }
  | _ => none }
def spanPartsRow : OpenClaim := { program := "ythdbllcpfajjmaa", sum := "cdfbee5214aa709423a887fe0cf1008ba5cdff7d91e5933d131f91d7d6a7b9f0", func := "pedigree/pedigreelaw02.SpanParts", spec := "spanParts", inPlace := ["math.archTrunc", "math.Float64bits", "math.Float64frombits"], unfollowed := true, recurses := true, apart := false }
def SpanPartsSaid : Prop := spanPartsRow.holds Try.pinned (OpenSpec.ofChange spanPartsSpec)

/-- ITS FALSE NEIGHBOUR: 'it returns false'. Refute it at one input. -/
def spanPartsWrong : ChangeSpec := { name := "spanParts", fn := fun _ => fun
  | [d1, d2] => { results := [.lit (.bool false)], args := [d1, d2] }
  | _ => none }
def SpanPartsWrongFalsely : Prop := spanPartsRow.holds Try.pinned (OpenSpec.ofChange spanPartsWrong)

/- THE SECOND FORM. 'bulk': how many values and letters a reading holds, each counted each time it is reached (what is shared counts as often as it is met; a slice's spare places count too). A statement '..UptoSaid' is the law's where the arguments, and the package variables that the reading takes, are together of bulk at most 1048576: NARROWER than '..Said'. Prove '..Said' where nothing that the law and all that it calls make is longer than what came in: it says more and counts as full. Else prove '..UptoSaid'. A law counts once. -/
mutual
def uptoBulk {H : Type} : DataW H → Nat
  | .lit (.string bytes) => bytes.length + 1
  | .lit _ => 1
  | .nil => 1
  | .ptr d => uptoBulk d + 1
  | .slice elems spare => uptoBulkAll elems + uptoBulkAll spare + 1
  | .agg parts => uptoBulkAll parts + 1
  | .iface _ d => uptoBulk d + 1
  | .map entries => uptoBulkEntries entries + 1
  | .held _ => 1
def uptoBulkAll {H : Type} : List (DataW H) → Nat
  | [] => 0
  | d :: r => uptoBulk d + uptoBulkAll r
def uptoBulkEntries {H : Type} : List (Lit × DataW H) → Nat
  | [] => 0
  | x :: r => uptoBulkEntry x + uptoBulkEntries r
def uptoBulkEntry {H : Type} : Lit × DataW H → Nat
  | (.string bytes, d) => bytes.length + uptoBulk d + 1
  | (_, d) => uptoBulk d + 1
 end
def uptoSmall : (H : Type) → List (DataW H) → Bool := fun _ ds => decide (uptoBulkAll ds ≤ 1048576)
def OpenSpec.upto (s : _root_.Go.ChangeSpec) : _root_.Go.OpenSpec := { _root_.Go.OpenSpec.ofChange s with cond := some uptoSmall }

/-- 'pedigreelaw02.SpanMakesBack', WHERE WHAT IT READS IS OF BULK AT MOST 1048576: true; the input reads as it did. -/
def spanMakesBackUptoRow : OpenClaim := { program := "ythdbllcpfajjmaa", sum := "cdfbee5214aa709423a887fe0cf1008ba5cdff7d91e5933d131f91d7d6a7b9f0", func := "pedigree/pedigreelaw02.SpanMakesBack", spec := "spanMakesBack", inPlace := ["math.archTrunc", "math.Float64bits", "math.Float64frombits"], unfollowed := true, recurses := true, apart := false, narrowed := true }
def SpanMakesBackUptoSaid : Prop := spanMakesBackUptoRow.holds Try.pinned (OpenSpec.upto spanMakesBackSpec)

/-- 'pedigreelaw02.SpanOrderless', WHERE WHAT IT READS IS OF BULK AT MOST 1048576: true; the input reads as it did. -/
def spanOrderlessUptoRow : OpenClaim := { program := "ythdbllcpfajjmaa", sum := "cdfbee5214aa709423a887fe0cf1008ba5cdff7d91e5933d131f91d7d6a7b9f0", func := "pedigree/pedigreelaw02.SpanOrderless", spec := "spanOrderless", inPlace := ["math.archTrunc", "math.Float64bits", "math.Float64frombits"], unfollowed := true, recurses := true, apart := false, narrowed := true }
def SpanOrderlessUptoSaid : Prop := spanOrderlessUptoRow.holds Try.pinned (OpenSpec.upto spanOrderlessSpec)

/-- 'pedigreelaw02.SpanApart', WHERE WHAT IT READS IS OF BULK AT MOST 1048576: true; the input reads as it did. -/
def spanApartUptoRow : OpenClaim := { program := "ythdbllcpfajjmaa", sum := "cdfbee5214aa709423a887fe0cf1008ba5cdff7d91e5933d131f91d7d6a7b9f0", func := "pedigree/pedigreelaw02.SpanApart", spec := "spanApart", inPlace := ["math.archTrunc", "math.Float64bits", "math.Float64frombits"], unfollowed := true, recurses := true, apart := false, narrowed := true }
def SpanApartUptoSaid : Prop := spanApartUptoRow.holds Try.pinned (OpenSpec.upto spanApartSpec)

/-- 'pedigreelaw02.SpanPlaces', WHERE WHAT IT READS IS OF BULK AT MOST 1048576: true; the input reads as it did. -/
def spanPlacesUptoRow : OpenClaim := { program := "ythdbllcpfajjmaa", sum := "cdfbee5214aa709423a887fe0cf1008ba5cdff7d91e5933d131f91d7d6a7b9f0", func := "pedigree/pedigreelaw02.SpanPlaces", spec := "spanPlaces", inPlace := ["math.archTrunc", "math.Float64bits", "math.Float64frombits"], unfollowed := true, recurses := true, apart := false, narrowed := true }
def SpanPlacesUptoSaid : Prop := spanPlacesUptoRow.holds Try.pinned (OpenSpec.upto spanPlacesSpec)

/-- 'pedigreelaw02.SpanCutsInto', WHERE WHAT IT READS IS OF BULK AT MOST 1048576: true; the input reads as it did. -/
def spanCutsIntoUptoRow : OpenClaim := { program := "ythdbllcpfajjmaa", sum := "cdfbee5214aa709423a887fe0cf1008ba5cdff7d91e5933d131f91d7d6a7b9f0", func := "pedigree/pedigreelaw02.SpanCutsInto", spec := "spanCutsInto", inPlace := ["math.archTrunc", "math.Float64bits", "math.Float64frombits"], unfollowed := true, recurses := true, apart := false, narrowed := true }
def SpanCutsIntoUptoSaid : Prop := spanCutsIntoUptoRow.holds Try.pinned (OpenSpec.upto spanCutsIntoSpec)

/-- 'pedigreelaw02.SpanParts', WHERE WHAT IT READS IS OF BULK AT MOST 1048576: true; the input reads as it did. -/
def spanPartsUptoRow : OpenClaim := { program := "ythdbllcpfajjmaa", sum := "cdfbee5214aa709423a887fe0cf1008ba5cdff7d91e5933d131f91d7d6a7b9f0", func := "pedigree/pedigreelaw02.SpanParts", spec := "spanParts", inPlace := ["math.archTrunc", "math.Float64bits", "math.Float64frombits"], unfollowed := true, recurses := true, apart := false, narrowed := true }
def SpanPartsUptoSaid : Prop := spanPartsUptoRow.holds Try.pinned (OpenSpec.upto spanPartsSpec)

end Rows
end Go.Proofs.Ythdbllcpfajjmaa
