/-
  No cell of these rows narrows 'for every input' (looked for: loops, veiled, ifaces, maps, wideKeys, modest, calm, conditions, laid).
  DERIVED. THE GIVEN ROWS OF THIS SEAT. 5 by the template 'for every input the law returns true; each argument reads behind the call as it read before'; 0 by the template 'total and deterministic' (their statements: YtndfkpajojbfkaaTotals.lean).
  GIVEN WITH THE SEED: the statements are not yours to turn. If you find one false, say at which input.
  Laid BY PROGRAM, IN A SANDBOX (cutbox-rows.mjs): the forced cells as the released guide's own fill.sh prints them over the translation 9bb1e6825e47e1a8… (all of the seat's roots in one cut). By AI agents, Wed Nov 11 2026. No macro, syntax, notation, axiom, sorry.
-/
import Derived.Test.YtndfkpajojbfkaaChecked
import GoSem.Claim
import GoSem.ClaimJoined
import GoSem.ClaimMapViews
import Derived.JoinedTies
import Derived.KernelRfl
namespace Go.Proofs.Ytndfkpajojbfkaa
/- THE CELL 'sum', in the pinned program and in every row, IS THE sha256 OF THE DUMP (.gsa) THAT YtndfkpajojbfkaaProg.lean LOADS. Nothing in Lean hashes anything: it is a label: what it is worth is what the hold of that sum in a sandbox is worth. -/
noncomputable def Try.pinned : Pinned := { name := "ytndfkpajojbfkaa", sum := "9bb1e6825e47e1a836a762fd408c15a92651a04604b3b3a1b7a57bf74edf59ae", checked := Try.checked }
namespace Rows
def none {H : Type} : Left H := { results := [], args := [] }

/-- 'pedigreelaw12.ChunkNumbers': WHATEVER THE INPUT: true; the input reads as it did. -/
def chunkNumbersSpec : ChangeSpec := { name := "chunkNumbers", fn := fun _ => fun
  | [d1, d2, d3] => { results := [.lit (.bool true)], args := [d1, d2, d3] }
  | _ => none }
def chunkNumbersRow : OpenClaim := { program := "ytndfkpajojbfkaa", sum := "9bb1e6825e47e1a836a762fd408c15a92651a04604b3b3a1b7a57bf74edf59ae", func := "pedigree/pedigreelaw12.ChunkNumbers", spec := "chunkNumbers", inPlace := ["math.archTrunc", "math.Float64bits", "math.Float64frombits"], apart := false }
def ChunkNumbersSaid : Prop := chunkNumbersRow.holds Try.pinned (OpenSpec.ofChange chunkNumbersSpec)

/-- ITS FALSE NEIGHBOUR: 'it returns false'. Refute it at one input. -/
def chunkNumbersWrong : ChangeSpec := { name := "chunkNumbers", fn := fun _ => fun
  | [d1, d2, d3] => { results := [.lit (.bool false)], args := [d1, d2, d3] }
  | _ => none }
def ChunkNumbersWrongFalsely : Prop := chunkNumbersRow.holds Try.pinned (OpenSpec.ofChange chunkNumbersWrong)

/-- 'pedigreelaw12.ChunkStretches': WHATEVER THE INPUT: true; the input reads as it did. -/
def chunkStretchesSpec : ChangeSpec := { name := "chunkStretches", fn := fun _ => fun
  | [d1, d2, d3] => { results := [.lit (.bool true)], args := [d1, d2, d3] }
  | _ => none }
def chunkStretchesRow : OpenClaim := { program := "ytndfkpajojbfkaa", sum := "9bb1e6825e47e1a836a762fd408c15a92651a04604b3b3a1b7a57bf74edf59ae", func := "pedigree/pedigreelaw12.ChunkStretches", spec := "chunkStretches", inPlace := ["math.archTrunc", "math.Float64bits", "math.Float64frombits"], apart := false }
def ChunkStretchesSaid : Prop := chunkStretchesRow.holds Try.pinned (OpenSpec.ofChange chunkStretchesSpec)

/-- ITS FALSE NEIGHBOUR: 'it returns false'. Refute it at one input. -/
def chunkStretchesWrong : ChangeSpec := { name := "chunkStretches", fn := fun _ => fun
  | [d1, d2, d3] => { results := [.lit (.bool false)], args := [d1, d2, d3] }
  | _ => none }
def ChunkStretchesWrongFalsely : Prop := chunkStretchesRow.holds Try.pinned (OpenSpec.ofChange chunkStretchesWrong)

/-- 'pedigreelaw12.ChunkFills': WHATEVER THE INPUT: true; the input reads as it did. -/
def chunkFillsSpec : ChangeSpec := { name := "chunkFills", fn := fun _ => fun
  | [d1, d2, d3, d4, d5, d6] => { results := [.lit (.bool true)], args := [d1, d2, d3, d4, d5, d6] }
  | _ => none }
def chunkFillsRow : OpenClaim := { program := "ytndfkpajojbfkaa", sum := "9bb1e6825e47e1a836a762fd408c15a92651a04604b3b3a1b7a57bf74edf59ae", func := "pedigree/pedigreelaw12.ChunkFills", spec := "chunkFills", inPlace := ["math.archTrunc", "math.Float64bits", "math.Float64frombits"], unfollowed := true, recurses := true, apart := false }
def ChunkFillsSaid : Prop := chunkFillsRow.holds Try.pinned (OpenSpec.ofChange chunkFillsSpec)

/-- ITS FALSE NEIGHBOUR: 'it returns false'. Refute it at one input. -/
def chunkFillsWrong : ChangeSpec := { name := "chunkFills", fn := fun _ => fun
  | [d1, d2, d3, d4, d5, d6] => { results := [.lit (.bool false)], args := [d1, d2, d3, d4, d5, d6] }
  | _ => none }
def ChunkFillsWrongFalsely : Prop := chunkFillsRow.holds Try.pinned (OpenSpec.ofChange chunkFillsWrong)

/-- 'pedigreelaw12.ChunkWhole': WHATEVER THE INPUT: true; the input reads as it did. -/
def chunkWholeSpec : ChangeSpec := { name := "chunkWhole", fn := fun _ => fun
  | [d1, d2, d3] => { results := [.lit (.bool true)], args := [d1, d2, d3] }
  | _ => none }
def chunkWholeRow : OpenClaim := { program := "ytndfkpajojbfkaa", sum := "9bb1e6825e47e1a836a762fd408c15a92651a04604b3b3a1b7a57bf74edf59ae", func := "pedigree/pedigreelaw12.ChunkWhole", spec := "chunkWhole", inPlace := ["math.archTrunc", "math.Float64bits", "math.Float64frombits"], unfollowed := true, recurses := true, apart := false }
def ChunkWholeSaid : Prop := chunkWholeRow.holds Try.pinned (OpenSpec.ofChange chunkWholeSpec)

/-- ITS FALSE NEIGHBOUR: 'it returns false'. Refute it at one input. -/
def chunkWholeWrong : ChangeSpec := { name := "chunkWhole", fn := fun _ => fun
  | [d1, d2, d3] => { results := [.lit (.bool false)], args := [d1, d2, d3] }
  | _ => none }
def ChunkWholeWrongFalsely : Prop := chunkWholeRow.holds Try.pinned (OpenSpec.ofChange chunkWholeWrong)

/-- 'pedigreelaw12.ChunkKeeps': WHATEVER THE INPUT: true; the input reads as it did. -/
def chunkKeepsSpec : ChangeSpec := { name := "chunkKeeps", fn := fun _ => fun
  | [d1, d2, d3, d4] => { results := [.lit (.bool true)], args := [d1, d2, d3, d4] }
  | _ => none }
def chunkKeepsRow : OpenClaim := { program := "ytndfkpajojbfkaa", sum := "9bb1e6825e47e1a836a762fd408c15a92651a04604b3b3a1b7a57bf74edf59ae", func := "pedigree/pedigreelaw12.ChunkKeeps", spec := "chunkKeeps", inPlace := ["math.archTrunc", "math.Float64bits", "math.Float64frombits"], unfollowed := true, recurses := true, apart := false }
def ChunkKeepsSaid : Prop := chunkKeepsRow.holds Try.pinned (OpenSpec.ofChange chunkKeepsSpec)

/-- ITS FALSE NEIGHBOUR: 'it returns false'. Refute it at one input. -/
def chunkKeepsWrong : ChangeSpec := { name := "chunkKeeps", fn := fun _ => fun
  | [d1, d2, d3, d4] => { results := [.lit (.bool false)], args := [d1, d2, d3, d4] }
  | _ => none }
def ChunkKeepsWrongFalsely : Prop := chunkKeepsRow.holds Try.pinned (OpenSpec.ofChange chunkKeepsWrong)

/- THE SECOND FORM. 'bulk': how many values and letters a reading holds, each counted each time it is reached (what is shared counts as often as it is met; a slice's spare places count too). A statement '..UptoSaid' is the law's where the arguments, and the package variables that the reading takes, are together of bulk at most 1048576: NARROWER than '..Said'. Prove '..Said' where nothing that the law and all that it calls make is longer than what came in: it says more and counts as full. Else prove '..UptoSaid'. A law counts once. -/
mutual
def uptoBulk {H : Type} : DataW H → Nat
  | .lit (.string bytes) => bytes.length + 1
  | .lit _ => 1
  | .nil => 1
  | .ptr d => uptoBulk d + 1
  | .slice elems spare => uptoBulkAll elems + uptoBulkAll spare + 1
  | .agg parts => uptoBulkAll parts + 1
  | .iface _ d => uptoBulk d + 1
  | .map entries => uptoBulkEntries entries + 1
  | .held _ => 1
def uptoBulkAll {H : Type} : List (DataW H) → Nat
  | [] => 0
  | d :: r => uptoBulk d + uptoBulkAll r
def uptoBulkEntries {H : Type} : List (Lit × DataW H) → Nat
  | [] => 0
  | x :: r => uptoBulkEntry x + uptoBulkEntries r
def uptoBulkEntry {H : Type} : Lit × DataW H → Nat
  | (.string bytes, d) => bytes.length + uptoBulk d + 1
  | (_, d) => uptoBulk d + 1
 end
def uptoSmall : (H : Type) → List (DataW H) → Bool := fun _ ds => decide (uptoBulkAll ds ≤ 1048576)
def OpenSpec.upto (s : _root_.Go.ChangeSpec) : _root_.Go.OpenSpec := { _root_.Go.OpenSpec.ofChange s with cond := some uptoSmall }

/-- 'pedigreelaw12.ChunkNumbers', WHERE WHAT IT READS IS OF BULK AT MOST 1048576: true; the input reads as it did. -/
def chunkNumbersUptoRow : OpenClaim := { program := "ytndfkpajojbfkaa", sum := "9bb1e6825e47e1a836a762fd408c15a92651a04604b3b3a1b7a57bf74edf59ae", func := "pedigree/pedigreelaw12.ChunkNumbers", spec := "chunkNumbers", inPlace := ["math.archTrunc", "math.Float64bits", "math.Float64frombits"], apart := false, narrowed := true }
def ChunkNumbersUptoSaid : Prop := chunkNumbersUptoRow.holds Try.pinned (OpenSpec.upto chunkNumbersSpec)

/-- 'pedigreelaw12.ChunkStretches', WHERE WHAT IT READS IS OF BULK AT MOST 1048576: true; the input reads as it did. -/
def chunkStretchesUptoRow : OpenClaim := { program := "ytndfkpajojbfkaa", sum := "9bb1e6825e47e1a836a762fd408c15a92651a04604b3b3a1b7a57bf74edf59ae", func := "pedigree/pedigreelaw12.ChunkStretches", spec := "chunkStretches", inPlace := ["math.archTrunc", "math.Float64bits", "math.Float64frombits"], apart := false, narrowed := true }
def ChunkStretchesUptoSaid : Prop := chunkStretchesUptoRow.holds Try.pinned (OpenSpec.upto chunkStretchesSpec)

/-- 'pedigreelaw12.ChunkFills', WHERE WHAT IT READS IS OF BULK AT MOST 1048576: true; the input reads as it did. -/
def chunkFillsUptoRow : OpenClaim := { program := "ytndfkpajojbfkaa", sum := "9bb1e6825e47e1a836a762fd408c15a92651a04604b3b3a1b7a57bf74edf59ae", func := "pedigree/pedigreelaw12.ChunkFills", spec := "chunkFills", inPlace := ["math.archTrunc", "math.Float64bits", "math.Float64frombits"], unfollowed := true, recurses := true, apart := false, narrowed := true }
def ChunkFillsUptoSaid : Prop := chunkFillsUptoRow.holds Try.pinned (OpenSpec.upto chunkFillsSpec)

/-- 'pedigreelaw12.ChunkWhole', WHERE WHAT IT READS IS OF BULK AT MOST 1048576: true; the input reads as it did. -/
def chunkWholeUptoRow : OpenClaim := { program := "ytndfkpajojbfkaa", sum := "9bb1e6825e47e1a836a762fd408c15a92651a04604b3b3a1b7a57bf74edf59ae", func := "pedigree/pedigreelaw12.ChunkWhole", spec := "chunkWhole", inPlace := ["math.archTrunc", "math.Float64bits", "math.Float64frombits"], unfollowed := true, recurses := true, apart := false, narrowed := true }
def ChunkWholeUptoSaid : Prop := chunkWholeUptoRow.holds Try.pinned (OpenSpec.upto chunkWholeSpec)

/-- 'pedigreelaw12.ChunkKeeps', WHERE WHAT IT READS IS OF BULK AT MOST 1048576: true; the input reads as it did. -/
def chunkKeepsUptoRow : OpenClaim := { program := "ytndfkpajojbfkaa", sum := "9bb1e6825e47e1a836a762fd408c15a92651a04604b3b3a1b7a57bf74edf59ae", func := "pedigree/pedigreelaw12.ChunkKeeps", spec := "chunkKeeps", inPlace := ["math.archTrunc", "math.Float64bits", "math.Float64frombits"], unfollowed := true, recurses := true, apart := false, narrowed := true }
def ChunkKeepsUptoSaid : Prop := chunkKeepsUptoRow.holds Try.pinned (OpenSpec.upto chunkKeepsSpec)

end Rows
end Go.Proofs.Ytndfkpajojbfkaa
