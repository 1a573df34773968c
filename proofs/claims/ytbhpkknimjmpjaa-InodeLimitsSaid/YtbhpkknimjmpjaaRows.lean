/-
  No cell of these rows narrows 'for every input' (looked for: loops, veiled, ifaces, maps, wideKeys, modest, calm, conditions, laid).
  DERIVED. THE GIVEN ROWS OF THIS SEAT. 5 by the template 'for every input the law returns true; each argument reads behind the call as it read before'; 0 by the template 'total and deterministic' (their statements: YtbhpkknimjmpjaaTotals.lean).
  GIVEN WITH THE SEED: the statements are not yours to turn. If you find one false, say at which input.
  Laid BY PROGRAM, IN A SANDBOX (cutbox-rows.mjs): the forced cells as the released guide's own fill.sh prints them over the translation fac65241d947f4b8… (all of the seat's roots in one cut). By AI agents, Wed Nov 11 2026. No macro, syntax, notation, axiom, sorry.
-/
import Derived.Test.YtbhpkknimjmpjaaChecked
import GoSem.Claim
import GoSem.ClaimJoined
import GoSem.ClaimMapViews
import Derived.JoinedTies
import Derived.KernelRfl
namespace Go.Proofs.Ytbhpkknimjmpjaa
/- THE CELL 'sum', in the pinned program and in every row, IS THE sha256 OF THE DUMP (.gsa) THAT YtbhpkknimjmpjaaProg.lean LOADS. Nothing in Lean hashes anything: it is a label: what it is worth is what the hold of that sum in a sandbox is worth. -/
noncomputable def Try.pinned : Pinned := { name := "ytbhpkknimjmpjaa", sum := "fac65241d947f4b8d1895a9179111b9347393ccabab15484dde7efd231ee1966", checked := Try.checked }
namespace Rows
def none {H : Type} : Left H := { results := [], args := [] }

/-- 'pedigreelaw08.InodeGets': WHATEVER THE INPUT: true; the input reads as it did. -/
def inodeGetsSpec : ChangeSpec := { name := "inodeGets", fn := fun _ => fun
  | [d1, d2] => { results := [.lit (.bool true)], args := [d1, d2] }
  | _ => none }
def inodeGetsRow : OpenClaim := { program := "ytbhpkknimjmpjaa", sum := "fac65241d947f4b8d1895a9179111b9347393ccabab15484dde7efd231ee1966", func := "pedigree/pedigreelaw08.InodeGets", spec := "inodeGets", apart := false }
def InodeGetsSaid : Prop := inodeGetsRow.holds Try.pinned (OpenSpec.ofChange inodeGetsSpec)

/-- ITS FALSE NEIGHBOUR: 'it returns false'. Refute it at one input. -/
def inodeGetsWrong : ChangeSpec := { name := "inodeGets", fn := fun _ => fun
  | [d1, d2] => { results := [.lit (.bool false)], args := [d1, d2] }
  | _ => none }
def InodeGetsWrongFalsely : Prop := inodeGetsRow.holds Try.pinned (OpenSpec.ofChange inodeGetsWrong)

/-- 'pedigreelaw08.InodeApart': WHATEVER THE INPUT: true; the input reads as it did. -/
def inodeApartSpec : ChangeSpec := { name := "inodeApart", fn := fun _ => fun
  | [d1, d2] => { results := [.lit (.bool true)], args := [d1, d2] }
  | _ => none }
def inodeApartRow : OpenClaim := { program := "ytbhpkknimjmpjaa", sum := "fac65241d947f4b8d1895a9179111b9347393ccabab15484dde7efd231ee1966", func := "pedigree/pedigreelaw08.InodeApart", spec := "inodeApart", apart := false }
def InodeApartSaid : Prop := inodeApartRow.holds Try.pinned (OpenSpec.ofChange inodeApartSpec)

/-- ITS FALSE NEIGHBOUR: 'it returns false'. Refute it at one input. -/
def inodeApartWrong : ChangeSpec := { name := "inodeApart", fn := fun _ => fun
  | [d1, d2] => { results := [.lit (.bool false)], args := [d1, d2] }
  | _ => none }
def InodeApartWrongFalsely : Prop := inodeApartRow.holds Try.pinned (OpenSpec.ofChange inodeApartWrong)

/-- 'pedigreelaw08.InodeTurned': WHATEVER THE INPUT: true; the input reads as it did. -/
def inodeTurnedSpec : ChangeSpec := { name := "inodeTurned", fn := fun _ => fun
  | [d1, d2, d3] => { results := [.lit (.bool true)], args := [d1, d2, d3] }
  | _ => none }
def inodeTurnedRow : OpenClaim := { program := "ytbhpkknimjmpjaa", sum := "fac65241d947f4b8d1895a9179111b9347393ccabab15484dde7efd231ee1966", func := "pedigree/pedigreelaw08.InodeTurned", spec := "inodeTurned", apart := false }
def InodeTurnedSaid : Prop := inodeTurnedRow.holds Try.pinned (OpenSpec.ofChange inodeTurnedSpec)

/-- ITS FALSE NEIGHBOUR: 'it returns false'. Refute it at one input. -/
def inodeTurnedWrong : ChangeSpec := { name := "inodeTurned", fn := fun _ => fun
  | [d1, d2, d3] => { results := [.lit (.bool false)], args := [d1, d2, d3] }
  | _ => none }
def InodeTurnedWrongFalsely : Prop := inodeTurnedRow.holds Try.pinned (OpenSpec.ofChange inodeTurnedWrong)

/-- 'pedigreelaw08.InodePuts': WHATEVER THE INPUT: true; the input reads as it did. -/
def inodePutsSpec : ChangeSpec := { name := "inodePuts", fn := fun _ => fun
  | [d] => { results := [.lit (.bool true)], args := [d] }
  | _ => none }
def inodePutsRow : OpenClaim := { program := "ytbhpkknimjmpjaa", sum := "fac65241d947f4b8d1895a9179111b9347393ccabab15484dde7efd231ee1966", func := "pedigree/pedigreelaw08.InodePuts", spec := "inodePuts", apart := false }
def InodePutsSaid : Prop := inodePutsRow.holds Try.pinned (OpenSpec.ofChange inodePutsSpec)

/-- ITS FALSE NEIGHBOUR: 'it returns false'. Refute it at one input. -/
def inodePutsWrong : ChangeSpec := { name := "inodePuts", fn := fun _ => fun
  | [d] => { results := [.lit (.bool false)], args := [d] }
  | _ => none }
def InodePutsWrongFalsely : Prop := inodePutsRow.holds Try.pinned (OpenSpec.ofChange inodePutsWrong)

/-- 'pedigreelaw08.InodeLimits': WHATEVER THE INPUT: true; the input reads as it did. -/
def inodeLimitsSpec : ChangeSpec := { name := "inodeLimits", fn := fun _ => fun
  | [] => { results := [.lit (.bool true)], args := [] }
  | _ => none }
def inodeLimitsRow : OpenClaim := { program := "ytbhpkknimjmpjaa", sum := "fac65241d947f4b8d1895a9179111b9347393ccabab15484dde7efd231ee1966", func := "pedigree/pedigreelaw08.InodeLimits", spec := "inodeLimits", apart := false }
def InodeLimitsSaid : Prop := inodeLimitsRow.holds Try.pinned (OpenSpec.ofChange inodeLimitsSpec)

/-- ITS FALSE NEIGHBOUR: 'it returns false'. Refute it at one input. -/
def inodeLimitsWrong : ChangeSpec := { name := "inodeLimits", fn := fun _ => fun
  | [] => { results := [.lit (.bool false)], args := [] }
  | _ => none }
def InodeLimitsWrongFalsely : Prop := inodeLimitsRow.holds Try.pinned (OpenSpec.ofChange inodeLimitsWrong)

/- THE SECOND FORM. 'bulk': how many values and letters a reading holds, each counted each time it is reached (what is shared counts as often as it is met; a slice's spare places count too). A statement '..UptoSaid' is the law's where the arguments, and the package variables that the reading takes, are together of bulk at most 1048576: NARROWER than '..Said'. Prove '..Said' where nothing that the law and all that it calls make is longer than what came in: it says more and counts as full. Else prove '..UptoSaid'. A law counts once. -/
mutual
def uptoBulk {H : Type} : DataW H → Nat
  | .lit (.string bytes) => bytes.length + 1
  | .lit _ => 1
  | .nil => 1
  | .ptr d => uptoBulk d + 1
  | .slice elems spare => uptoBulkAll elems + uptoBulkAll spare + 1
  | .agg parts => uptoBulkAll parts + 1
  | .iface _ d => uptoBulk d + 1
  | .map entries => uptoBulkEntries entries + 1
  | .held _ => 1
def uptoBulkAll {H : Type} : List (DataW H) → Nat
  | [] => 0
  | d :: r => uptoBulk d + uptoBulkAll r
def uptoBulkEntries {H : Type} : List (Lit × DataW H) → Nat
  | [] => 0
  | x :: r => uptoBulkEntry x + uptoBulkEntries r
def uptoBulkEntry {H : Type} : Lit × DataW H → Nat
  | (.string bytes, d) => bytes.length + uptoBulk d + 1
  | (_, d) => uptoBulk d + 1
 end
def uptoSmall : (H : Type) → List (DataW H) → Bool := fun _ ds => decide (uptoBulkAll ds ≤ 1048576)
def OpenSpec.upto (s : _root_.Go.ChangeSpec) : _root_.Go.OpenSpec := { _root_.Go.OpenSpec.ofChange s with cond := some uptoSmall }

/-- 'pedigreelaw08.InodeGets', WHERE WHAT IT READS IS OF BULK AT MOST 1048576: true; the input reads as it did. -/
def inodeGetsUptoRow : OpenClaim := { program := "ytbhpkknimjmpjaa", sum := "fac65241d947f4b8d1895a9179111b9347393ccabab15484dde7efd231ee1966", func := "pedigree/pedigreelaw08.InodeGets", spec := "inodeGets", apart := false, narrowed := true }
def InodeGetsUptoSaid : Prop := inodeGetsUptoRow.holds Try.pinned (OpenSpec.upto inodeGetsSpec)

/-- 'pedigreelaw08.InodeApart', WHERE WHAT IT READS IS OF BULK AT MOST 1048576: true; the input reads as it did. -/
def inodeApartUptoRow : OpenClaim := { program := "ytbhpkknimjmpjaa", sum := "fac65241d947f4b8d1895a9179111b9347393ccabab15484dde7efd231ee1966", func := "pedigree/pedigreelaw08.InodeApart", spec := "inodeApart", apart := false, narrowed := true }
def InodeApartUptoSaid : Prop := inodeApartUptoRow.holds Try.pinned (OpenSpec.upto inodeApartSpec)

/-- 'pedigreelaw08.InodeTurned', WHERE WHAT IT READS IS OF BULK AT MOST 1048576: true; the input reads as it did. -/
def inodeTurnedUptoRow : OpenClaim := { program := "ytbhpkknimjmpjaa", sum := "fac65241d947f4b8d1895a9179111b9347393ccabab15484dde7efd231ee1966", func := "pedigree/pedigreelaw08.InodeTurned", spec := "inodeTurned", apart := false, narrowed := true }
def InodeTurnedUptoSaid : Prop := inodeTurnedUptoRow.holds Try.pinned (OpenSpec.upto inodeTurnedSpec)

/-- 'pedigreelaw08.InodePuts', WHERE WHAT IT READS IS OF BULK AT MOST 1048576: true; the input reads as it did. -/
def inodePutsUptoRow : OpenClaim := { program := "ytbhpkknimjmpjaa", sum := "fac65241d947f4b8d1895a9179111b9347393ccabab15484dde7efd231ee1966", func := "pedigree/pedigreelaw08.InodePuts", spec := "inodePuts", apart := false, narrowed := true }
def InodePutsUptoSaid : Prop := inodePutsUptoRow.holds Try.pinned (OpenSpec.upto inodePutsSpec)

/-- 'pedigreelaw08.InodeLimits', WHERE WHAT IT READS IS OF BULK AT MOST 1048576: true; the input reads as it did. -/
def inodeLimitsUptoRow : OpenClaim := { program := "ytbhpkknimjmpjaa", sum := "fac65241d947f4b8d1895a9179111b9347393ccabab15484dde7efd231ee1966", func := "pedigree/pedigreelaw08.InodeLimits", spec := "inodeLimits", apart := false, narrowed := true }
def InodeLimitsUptoSaid : Prop := inodeLimitsUptoRow.holds Try.pinned (OpenSpec.upto inodeLimitsSpec)

end Rows
end Go.Proofs.Ytbhpkknimjmpjaa
