/-
  No cell of these rows narrows 'for every input' (looked for: loops, veiled, ifaces, maps, wideKeys, modest, calm, conditions, laid).
  DERIVED. THE GIVEN ROWS OF THIS SEAT. 6 by the template 'for every input the law returns true; each argument reads behind the call as it read before'; 0 by the template 'total and deterministic' (their statements: YtifbbbphoponcaaTotals.lean).
  GIVEN WITH THE SEED: the statements are not yours to turn. If you find one false, say at which input.
  Laid BY PROGRAM, IN A SANDBOX (cutbox-rows.mjs): the forced cells as the released guide's own fill.sh prints them over the translation 27f305988d9a1f84… (all of the seat's roots in one cut). By AI agents, Wed Nov 11 2026. No macro, syntax, notation, axiom, sorry.
-/
import Derived.Test.YtifbbbphoponcaaChecked
import GoSem.Claim
import GoSem.ClaimJoined
import GoSem.ClaimMapViews
import Derived.JoinedTies
import Derived.KernelRfl
namespace Go.Proofs.Ytifbbbphoponcaa
/- THE CELL 'sum', in the pinned program and in every row, IS THE sha256 OF THE DUMP (.gsa) THAT YtifbbbphoponcaaProg.lean LOADS. Nothing in Lean hashes anything: it is a label: what it is worth is what the hold of that sum in a sandbox is worth. -/
noncomputable def Try.pinned : Pinned := { name := "ytifbbbphoponcaa", sum := "27f305988d9a1f844d1f3854c9fd04a0a3ed2a2d6313a0f5f1cea6742ea941a7", checked := Try.checked }
namespace Rows
def none {H : Type} : Left H := { results := [], args := [] }

/-- 'pedigreelaw09.DirBytes': WHATEVER THE INPUT: true; the input reads as it did. -/
def dirBytesSpec : ChangeSpec := { name := "dirBytes", fn := fun _ => fun
  | [d1, d2] => { results := [.lit (.bool true)], args := [d1, d2] }
  | _ => none }
def dirBytesRow : OpenClaim := { program := "ytifbbbphoponcaa", sum := "27f305988d9a1f844d1f3854c9fd04a0a3ed2a2d6313a0f5f1cea6742ea941a7", func := "pedigree/pedigreelaw09.DirBytes", spec := "dirBytes", apart := false }
def DirBytesSaid : Prop := dirBytesRow.holds Try.pinned (OpenSpec.ofChange dirBytesSpec)

/-- ITS FALSE NEIGHBOUR: 'it returns false'. Refute it at one input. -/
def dirBytesWrong : ChangeSpec := { name := "dirBytes", fn := fun _ => fun
  | [d1, d2] => { results := [.lit (.bool false)], args := [d1, d2] }
  | _ => none }
def DirBytesWrongFalsely : Prop := dirBytesRow.holds Try.pinned (OpenSpec.ofChange dirBytesWrong)

/-- 'pedigreelaw09.DirChecks': WHATEVER THE INPUT: true; the input reads as it did. -/
def dirChecksSpec : ChangeSpec := { name := "dirChecks", fn := fun _ => fun
  | [d1, d2] => { results := [.lit (.bool true)], args := [d1, d2] }
  | _ => none }
def dirChecksRow : OpenClaim := { program := "ytifbbbphoponcaa", sum := "27f305988d9a1f844d1f3854c9fd04a0a3ed2a2d6313a0f5f1cea6742ea941a7", func := "pedigree/pedigreelaw09.DirChecks", spec := "dirChecks", apart := false }
def DirChecksSaid : Prop := dirChecksRow.holds Try.pinned (OpenSpec.ofChange dirChecksSpec)

/-- ITS FALSE NEIGHBOUR: 'it returns false'. Refute it at one input. -/
def dirChecksWrong : ChangeSpec := { name := "dirChecks", fn := fun _ => fun
  | [d1, d2] => { results := [.lit (.bool false)], args := [d1, d2] }
  | _ => none }
def DirChecksWrongFalsely : Prop := dirChecksRow.holds Try.pinned (OpenSpec.ofChange dirChecksWrong)

/-- 'pedigreelaw09.DirFinds': WHATEVER THE INPUT: true; the input reads as it did. -/
def dirFindsSpec : ChangeSpec := { name := "dirFinds", fn := fun _ => fun
  | [d1, d2] => { results := [.lit (.bool true)], args := [d1, d2] }
  | _ => none }
def dirFindsRow : OpenClaim := { program := "ytifbbbphoponcaa", sum := "27f305988d9a1f844d1f3854c9fd04a0a3ed2a2d6313a0f5f1cea6742ea941a7", func := "pedigree/pedigreelaw09.DirFinds", spec := "dirFinds", apart := false }
def DirFindsSaid : Prop := dirFindsRow.holds Try.pinned (OpenSpec.ofChange dirFindsSpec)

/-- ITS FALSE NEIGHBOUR: 'it returns false'. Refute it at one input. -/
def dirFindsWrong : ChangeSpec := { name := "dirFinds", fn := fun _ => fun
  | [d1, d2] => { results := [.lit (.bool false)], args := [d1, d2] }
  | _ => none }
def DirFindsWrongFalsely : Prop := dirFindsRow.holds Try.pinned (OpenSpec.ofChange dirFindsWrong)

/-- 'pedigreelaw09.DirMany': WHATEVER THE INPUT: true; the input reads as it did. -/
def dirManySpec : ChangeSpec := { name := "dirMany", fn := fun _ => fun
  | [d] => { results := [.lit (.bool true)], args := [d] }
  | _ => none }
def dirManyRow : OpenClaim := { program := "ytifbbbphoponcaa", sum := "27f305988d9a1f844d1f3854c9fd04a0a3ed2a2d6313a0f5f1cea6742ea941a7", func := "pedigree/pedigreelaw09.DirMany", spec := "dirMany", unfollowed := true, recurses := true, apart := false }
def DirManySaid : Prop := dirManyRow.holds Try.pinned (OpenSpec.ofChange dirManySpec)

/-- ITS FALSE NEIGHBOUR: 'it returns false'. Refute it at one input. -/
def dirManyWrong : ChangeSpec := { name := "dirMany", fn := fun _ => fun
  | [d] => { results := [.lit (.bool false)], args := [d] }
  | _ => none }
def DirManyWrongFalsely : Prop := dirManyRow.holds Try.pinned (OpenSpec.ofChange dirManyWrong)

/-- 'pedigreelaw09.DirTurns': WHATEVER THE INPUT: true; the input reads as it did. -/
def dirTurnsSpec : ChangeSpec := { name := "dirTurns", fn := fun _ => fun
  | [d1, d2, d3] => { results := [.lit (.bool true)], args := [d1, d2, d3] }
  | _ => none }
def dirTurnsRow : OpenClaim := { program := "ytifbbbphoponcaa", sum := "27f305988d9a1f844d1f3854c9fd04a0a3ed2a2d6313a0f5f1cea6742ea941a7", func := "pedigree/pedigreelaw09.DirTurns", spec := "dirTurns", unfollowed := true, recurses := true, apart := false }
def DirTurnsSaid : Prop := dirTurnsRow.holds Try.pinned (OpenSpec.ofChange dirTurnsSpec)

/-- ITS FALSE NEIGHBOUR: 'it returns false'. Refute it at one input. -/
def dirTurnsWrong : ChangeSpec := { name := "dirTurns", fn := fun _ => fun
  | [d1, d2, d3] => { results := [.lit (.bool false)], args := [d1, d2, d3] }
  | _ => none }
def DirTurnsWrongFalsely : Prop := dirTurnsRow.holds Try.pinned (OpenSpec.ofChange dirTurnsWrong)

/-- 'pedigreelaw09.DirUndoes': WHATEVER THE INPUT: true; the input reads as it did. -/
def dirUndoesSpec : ChangeSpec := { name := "dirUndoes", fn := fun _ => fun
  | [d1, d2] => { results := [.lit (.bool true)], args := [d1, d2] }
  | _ => none }
def dirUndoesRow : OpenClaim := { program := "ytifbbbphoponcaa", sum := "27f305988d9a1f844d1f3854c9fd04a0a3ed2a2d6313a0f5f1cea6742ea941a7", func := "pedigree/pedigreelaw09.DirUndoes", spec := "dirUndoes", unfollowed := true, recurses := true, apart := false }
def DirUndoesSaid : Prop := dirUndoesRow.holds Try.pinned (OpenSpec.ofChange dirUndoesSpec)

/-- ITS FALSE NEIGHBOUR: 'it returns false'. Refute it at one input. -/
def dirUndoesWrong : ChangeSpec := { name := "dirUndoes", fn := fun _ => fun
  | [d1, d2] => { results := [.lit (.bool false)], args := [d1, d2] }
  | _ => none }
def DirUndoesWrongFalsely : Prop := dirUndoesRow.holds Try.pinned (OpenSpec.ofChange dirUndoesWrong)

/- THE SECOND FORM. 'bulk': how many values and letters a reading holds, each counted each time it is reached (what is shared counts as often as it is met; a slice's spare places count too). A statement '..UptoSaid' is the law's where the arguments, and the package variables that the reading takes, are together of bulk at most 1048576: NARROWER than '..Said'. Prove '..Said' where nothing that the law and all that it calls make is longer than what came in: it says more and counts as full. Else prove '..UptoSaid'. A law counts once. -/
mutual
def uptoBulk {H : Type} : DataW H → Nat
  | .lit (.string bytes) => bytes.length + 1
  | .lit _ => 1
  | .nil => 1
  | .ptr d => uptoBulk d + 1
  | .slice elems spare => uptoBulkAll elems + uptoBulkAll spare + 1
  | .agg parts => uptoBulkAll parts + 1
  | .iface _ d => uptoBulk d + 1
  | .map entries => uptoBulkEntries entries + 1
  | .held _ => 1
def uptoBulkAll {H : Type} : List (DataW H) → Nat
  | [] => 0
  | d :: r => uptoBulk d + uptoBulkAll r
def uptoBulkEntries {H : Type} : List (Lit × DataW H) → Nat
  | [] => 0
  | x :: r => uptoBulkEntry x + uptoBulkEntries r
def uptoBulkEntry {H : Type} : Lit × DataW H → Nat
  | (.string bytes, d) => bytes.length + uptoBulk d + 1
  | (_, d) => uptoBulk d + 1
 end
def uptoSmall : (H : Type) → List (DataW H) → Bool := fun _ ds => decide (uptoBulkAll ds ≤ 1048576)
def OpenSpec.upto (s : _root_.Go.ChangeSpec) : _root_.Go.OpenSpec := { _root_.Go.OpenSpec.ofChange s with cond := some uptoSmall }

/-- 'pedigreelaw09.DirBytes', WHERE WHAT IT READS IS OF BULK AT MOST 1048576: true; the input reads as it did. -/
def dirBytesUptoRow : OpenClaim := { program := "ytifbbbphoponcaa", sum := "27f305988d9a1f844d1f3854c9fd04a0a3ed2a2d6313a0f5f1cea6742ea941a7", func := "pedigree/pedigreelaw09.DirBytes", spec := "dirBytes", apart := false, narrowed := true }
def DirBytesUptoSaid : Prop := dirBytesUptoRow.holds Try.pinned (OpenSpec.upto dirBytesSpec)

/-- 'pedigreelaw09.DirChecks', WHERE WHAT IT READS IS OF BULK AT MOST 1048576: true; the input reads as it did. -/
def dirChecksUptoRow : OpenClaim := { program := "ytifbbbphoponcaa", sum := "27f305988d9a1f844d1f3854c9fd04a0a3ed2a2d6313a0f5f1cea6742ea941a7", func := "pedigree/pedigreelaw09.DirChecks", spec := "dirChecks", apart := false, narrowed := true }
def DirChecksUptoSaid : Prop := dirChecksUptoRow.holds Try.pinned (OpenSpec.upto dirChecksSpec)

/-- 'pedigreelaw09.DirFinds', WHERE WHAT IT READS IS OF BULK AT MOST 1048576: true; the input reads as it did. -/
def dirFindsUptoRow : OpenClaim := { program := "ytifbbbphoponcaa", sum := "27f305988d9a1f844d1f3854c9fd04a0a3ed2a2d6313a0f5f1cea6742ea941a7", func := "pedigree/pedigreelaw09.DirFinds", spec := "dirFinds", apart := false, narrowed := true }
def DirFindsUptoSaid : Prop := dirFindsUptoRow.holds Try.pinned (OpenSpec.upto dirFindsSpec)

/-- 'pedigreelaw09.DirMany', WHERE WHAT IT READS IS OF BULK AT MOST 1048576: true; the input reads as it did. -/
def dirManyUptoRow : OpenClaim := { program := "ytifbbbphoponcaa", sum := "27f305988d9a1f844d1f3854c9fd04a0a3ed2a2d6313a0f5f1cea6742ea941a7", func := "pedigree/pedigreelaw09.DirMany", spec := "dirMany", unfollowed := true, recurses := true, apart := false, narrowed := true }
def DirManyUptoSaid : Prop := dirManyUptoRow.holds Try.pinned (OpenSpec.upto dirManySpec)

/-- 'pedigreelaw09.DirTurns', WHERE WHAT IT READS IS OF BULK AT MOST 1048576: true; the input reads as it did. -/
def dirTurnsUptoRow : OpenClaim := { program := "ytifbbbphoponcaa", sum := "27f305988d9a1f844d1f3854c9fd04a0a3ed2a2d6313a0f5f1cea6742ea941a7", func := "pedigree/pedigreelaw09.DirTurns", spec := "dirTurns", unfollowed := true, recurses := true, apart := false, narrowed := true }
def DirTurnsUptoSaid : Prop := dirTurnsUptoRow.holds Try.pinned (OpenSpec.upto dirTurnsSpec)

/-- 'pedigreelaw09.DirUndoes', WHERE WHAT IT READS IS OF BULK AT MOST 1048576: true; the input reads as it did. -/
def dirUndoesUptoRow : OpenClaim := { program := "ytifbbbphoponcaa", sum := "27f305988d9a1f844d1f3854c9fd04a0a3ed2a2d6313a0f5f1cea6742ea941a7", func := "pedigree/pedigreelaw09.DirUndoes", spec := "dirUndoes", unfollowed := true, recurses := true, apart := false, narrowed := true }
def DirUndoesUptoSaid : Prop := dirUndoesUptoRow.holds Try.pinned (OpenSpec.upto dirUndoesSpec)

end Rows
end Go.Proofs.Ytifbbbphoponcaa
