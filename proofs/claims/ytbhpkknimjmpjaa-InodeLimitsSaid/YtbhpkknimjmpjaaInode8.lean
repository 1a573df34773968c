/-
  inode.Get of any bytes.
-/
import Derived.Test.YtbhpkknimjmpjaaInode7
import Derived.Test.YtbhpkknimjmpjaaRow
namespace Go.Proofs.Ytbhpkknimjmpjaa.In
open Go.RowKit Wd Wi
set_option linter.unusedVariables false

def chkL : List Int → Bool
  | k0 :: s0 :: l0 :: o0 :: n0 :: ps => chk k0 s0 l0 o0 n0 ps
  | _ => false
def blkL : List Int → List UInt8
  | k0 :: s0 :: l0 :: o0 :: n0 :: ps => blk k0 s0 l0 o0 n0 ps
  | _ => []
theorem five {xs : List Int} (h : xs.length = 37) : ∃ k0 s0 l0 o0 n0 ps, xs = k0 :: s0 :: l0 :: o0 :: n0 :: ps ∧ ps.length = 32 := by
  match xs, h with
  | k0 :: s0 :: l0 :: o0 :: n0 :: ps, h => exact ⟨k0, s0, l0, o0, n0, ps, rfl, by simpa using h⟩
theorem checkL {xs : List Int} (h : xs.length = 37) (w : World) : Calls Try.prog 14 #[.agg (ints xs)] w fun e w' => e = .returned (.bool (chkL xs)) ∧ Below w.heap.size w w' := by
  obtain ⟨k0, s0, l0, o0, n0, ps, rfl, hps⟩ := five h
  exact check_any k0 s0 l0 o0 n0 ps hps w
theorem iputL_no {xs : List Int} (h : xs.length = 37) (hc : chkL xs = false) (w : World) : Calls Try.prog 12 #[.agg (ints xs)] w fun e w' => e = .returned (.tuple #[.slice none 0 0, .bool false]) ∧ Below w.heap.size w w' := by
  obtain ⟨k0, s0, l0, o0, n0, ps, rfl, hps⟩ := five h
  exact iput_no k0 s0 l0 o0 n0 ps hps w hc
theorem iputL_own {xs : List Int} (h : xs.length = 37) (hc : chkL xs = true) (w : World) : Calls Try.prog 12 #[.agg (ints xs)] w (ResO w (blkL xs)) := by
  obtain ⟨k0, s0, l0, o0, n0, ps, rfl, hps⟩ := five h
  exact iput_yes k0 s0 l0 o0 n0 ps hps w hc
theorem iputL_yes {xs : List Int} (h : xs.length = 37) (hc : chkL xs = true) (w : World) : Calls Try.prog 12 #[.agg (ints xs)] w (Res2 w (blkL xs) true) :=
  (iputL_own h hc w).mono fun e w' h => h.res2

def decP (l : List UInt8) : List Int := (List.range 32).map fun k => ((leN (seg l (11 + 2 * k) 2) : Nat) : Int)
def dec (l : List UInt8) : List Int := (leN (seg l 0 1) : Int) :: (leN (seg l 1 2) : Int) :: (leN (seg l 3 2) : Int) :: (leN (seg l 5 3) : Int) :: (leN (seg l 8 3) : Int) :: decP l
theorem dec_len (l : List UInt8) : (dec l).length = 37 := by simp [dec, decP]
theorem dec_at (l : List UInt8) (k : Nat) (h : k < 32) : (dec l)[5 + k]? = some ((leN (seg l (11 + 2 * k) 2) : Nat) : Int) := by
  rw [Nat.add_comm]
  simp [dec, decP, h]
theorem take_set_next {xs ys : List Int} {n : Nat} {v : Int} (h : xs.take n = ys.take n) (hn : n < xs.length) (hy : ys[n]? = some v) : (xs.set n v).take (n + 1) = ys.take (n + 1) := by
  rw [List.take_add_one, List.take_add_one, hy, List.getElem?_set_self hn, List.take_set_of_le (Nat.le_refl n), h]
/-- are the bytes an inode's -/
def isIno (l : List UInt8) : Bool := decide (l.length = 128) && (chkL (dec l) && decide (blkL (dec l) = l))
def getV (l : List UInt8) : List Int := if isIno l then dec l else zIno
def GetR (w : World) (l : List UInt8) (e : Ending) (w' : World) : Prop := e = .returned (.tuple #[.agg (ints (getV l)), .bool (isIno l)]) ∧ Below w.heap.size w w'

end Go.Proofs.Ytbhpkknimjmpjaa.In
