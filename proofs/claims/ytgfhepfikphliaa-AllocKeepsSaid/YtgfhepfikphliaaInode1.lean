/-
  The contract of inode.Check: whether an inode may be.
-/
import Derived.Test.YtgfhepfikphliaaInode0
import Derived.Deep.MidRow
namespace Go.Proofs.Ytgfhepfikphliaa.In
open Go.RowKit Wd
set_option linter.unusedVariables false

def inB (v a b : Int) : Bool := decide (a ≤ v) && decide (v ≤ b)
set_option maxHeartbeats 400000 in
theorem in_any (v a b : Int) (w : World) : Calls Try.prog 32 #[.int .i64 v, .int .i64 a, .int .i64 b] w fun e w' => e = .returned (.bool (inB v a b)) ∧ w = w' := by
  unfold inB
  by_cases h1 : a ≤ v <;> by_cases h2 : v ≤ b
  all_goals
    go_enter Try.func32, Try.ntmps32
    go_wp2
    go_ret
    exact ⟨by simp [h1, h2], rfl⟩
set_option maxHeartbeats 400000 in
theorem rin_any (v a b : Int) (w : World) : Calls Try.prog 26 #[.int .i64 v, .int .i64 a, .int .i64 b] w fun e w' => e = .returned (.bool (inB v a b)) ∧ w = w' := by
  unfold inB
  by_cases h1 : a ≤ v <;> by_cases h2 : v ≤ b
  all_goals
    go_enter Try.func26, Try.ntmps26
    go_wp2
    go_ret
    exact ⟨by simp [h1, h2], rfl⟩

theorem wpList_eql_ino {ops : Array Oper} {Q : Exit → Act → World → Prop} {a : Act} {w : World} {rest : List Oper} {o : Oper} {t' : TypeId} {x y : Operand} (hw : Region.wanted o (yielded ops a.tmps) = true)
    (ho : o.op = .binOp .eql 24 x y t') (xs ys : List Int) (hx : a.eval x = .agg (ints xs)) (hy : a.eval y = .agg (ints ys)) (hlx : xs.length = 37) (hly : ys.length = 37)
    (hK : wpList Try.prog ops Q rest (a.put o.dst (.bool (xs == ys))) w) : wpList Try.prog ops Q (o :: rest) a w := by
  refine wpList_val hw (.bool (xs == ys)) w ?_ hK
  have hg : (eqGuard .eql 24 x y (.agg (ints xs)) (.agg (ints ys))).run Try.prog w = .ok () w := run_eqGuard_agg (P := Try.prog) w .eql _ x y _ _ (by kernel_rfl)
  have hb : (binOp .eql 24 (.agg (ints xs)) (.agg (ints ys))).run Try.prog w = .ok (.bool (xs == ys)) w := by
    rw [run_eql_struct, run_eql_ino w xs ys hlx hly 9997]; rfl
  unfold execOp
  simp [ho, hx, hy, hg, hb]

def zeros44 : Array Value := (List.replicate 1024 (Value.bool false)).toArray
theorem zero44 : (Try.prog.info? 49).map (fun i => i.zero) = some (some (.agg zeros44)) := by kernel_rfl
theorem zeroIno : (Try.prog.info? 24).map (fun i => i.zero) = some (some (.agg (ints (List.replicate 37 0)))) := by kernel_rfl

/-- may the k-th pointer be -/
def okAt (dir : Bool) (size : Int) (ps : List Int) (k : Nat) : Bool :=
  if ps.getD k 0 = 0 then !(dir && decide ((k : Int) * 128 < size)) else decide ((k : Int) * 128 < size) && inB (ps.getD k 0) 74 1023 && !((ps.take k).contains (ps.getD k 0))
def hdr (k0 s0 l0 o0 n0 : Int) : Bool := inB k0 1 2 && inB s0 0 4096 && inB l0 0 10000 && inB o0 1 16777215 && inB n0 0 16777215 && !(k0 == 2 && (l0 != 1 || s0 % 128 != 0))
def chk (k0 s0 l0 o0 n0 : Int) (ps : List Int) : Bool :=
  if k0 = 0 then (k0 :: s0 :: l0 :: o0 :: n0 :: ps) == List.replicate 37 0 else hdr k0 s0 l0 o0 n0 && (List.range 32).all (okAt (k0 == 2) s0 ps)

def seenA (l : List Int) : Array Value := l.foldl (fun s p => if p = 0 then s else s.setIfInBounds p.toNat (.bool true)) zeros44

set_option maxRecDepth 100000 in
set_option maxHeartbeats 400000 in
theorem check_zero (s0 l0 o0 n0 : Int) (ps : List Int) (hps : ps.length = 32) (w : World) : Calls Try.prog 23 #[.agg (ints (0 :: s0 :: l0 :: o0 :: n0 :: ps))] w fun e w' => e = .returned (.bool (chk 0 s0 l0 o0 n0 ps)) ∧ Below w.heap.size w w' := by
  have hc : chk 0 s0 l0 o0 n0 ps = ((0 :: s0 :: l0 :: o0 :: n0 :: ps) == List.replicate 37 0) := by simp [chk]
  rw [hc]
  have hlen : (0 :: s0 :: l0 :: o0 :: n0 :: ps).length = 37 := by simp [hps]
  have hcell : (w.alloc (.cells (ints (0 :: s0 :: l0 :: o0 :: n0 :: ps)) 24)).cell? ⟨w.heap.size, 0, none⟩ = some (.int .i64 0) := by
    rw [cell_of_row _ _ 0 _ _ (0, 0) (heap_alloc_new w _)]; rfl
  have hrange : (w.alloc (.cells (ints (0 :: s0 :: l0 :: o0 :: n0 :: ps)) 24)).rangeAt w.heap.size 0 ((0 :: s0 :: l0 :: o0 :: n0 :: ps).map (Value.int .i64)) := by
    intro j v hj
    rw [cell_of_row _ _ _ _ _ (0, 0) (heap_alloc_new w _), Nat.zero_add]
    simpa [ints] using hj
  have heq := run_eql_ino
  generalize (0 :: s0 :: l0 :: o0 :: n0 :: ps) = xs at *
  have HL := Lib.hid hlen
  have HR := Lib.hid hrange
  have HE := Lib.hid heq
  clear hlen hrange heq
  go_enter Try.func23, Try.ntmps23
  go_wp2_with (first
    | ((with_reducible show wpList _ _ _ (⟨some 11, _, _, _, _, _⟩ :: _) _ _); refine wpList_load_mid rfl 24 _ rfl w.heap.size 0 rfl _ _ HR.out Try.underlying24 rfl (by rw [List.length_map, HL.out]; kernel_rfl) ?_)
    | ((with_reducible show wpList _ _ _ (⟨some 12, _, _, _, _, _⟩ :: _) _ _); refine wpList_val rfl (.agg (ints (List.replicate 37 0))) _ (by unfold execOp; simp [run_build_none]) ?_)
    | ((with_reducible show wpList _ _ _ (⟨some 13, _, _, _, _, _⟩ :: _) _ _); refine wpList_eql_ino rfl rfl xs (List.replicate 37 0) rfl rfl HL.out (by simp) ?_))
  go_ret
  exact ⟨rfl, (Below.refl _ _).alloc (Nat.le_refl _) _⟩

theorem ino_cell (w : World) (xs : List Int) (t : TypeId) (i : Nat) (v : Int) (h : xs[i]? = some v) : (w.alloc (.cells (ints xs) t)).cell? ⟨w.heap.size, i, none⟩ = some (.int .i64 v) := by
  rw [cell_of_row _ _ i _ _ (0, 0) (heap_alloc_new w _)]
  simp [ints, h]

set_option maxRecDepth 100000 in
set_option maxHeartbeats 1600000 in
theorem check_bad (k0 s0 l0 o0 n0 : Int) (ps : List Int) (h0 : ¬ k0 = 0) (w : World) (hb : hdr k0 s0 l0 o0 n0 = false) :
    Calls Try.prog 23 #[.agg (ints (k0 :: s0 :: l0 :: o0 :: n0 :: ps))] w fun e w' => e = .returned (.bool false) ∧ Below w.heap.size w w' := by
  have hc0 := ino_cell w (k0 :: s0 :: l0 :: o0 :: n0 :: ps) 24 0 k0 rfl
  have hc1 := ino_cell w (k0 :: s0 :: l0 :: o0 :: n0 :: ps) 24 1 s0 rfl
  have hc2 := ino_cell w (k0 :: s0 :: l0 :: o0 :: n0 :: ps) 24 2 l0 rfl
  have hc3 := ino_cell w (k0 :: s0 :: l0 :: o0 :: n0 :: ps) 24 3 o0 rfl
  have hc4 := ino_cell w (k0 :: s0 :: l0 :: o0 :: n0 :: ps) 24 4 n0 rfl
  generalize (k0 :: s0 :: l0 :: o0 :: n0 :: ps) = xs at *
  have hcases : (inB k0 1 2 = false) ∨ (inB k0 1 2 = true ∧ inB s0 0 4096 = false) ∨ (inB k0 1 2 = true ∧ inB s0 0 4096 = true ∧ inB l0 0 10000 = false) ∨ (inB k0 1 2 = true ∧ inB s0 0 4096 = true ∧ inB l0 0 10000 = true ∧ inB o0 1 16777215 = false)
      ∨ (inB k0 1 2 = true ∧ inB s0 0 4096 = true ∧ inB l0 0 10000 = true ∧ inB o0 1 16777215 = true ∧ inB n0 0 16777215 = false)
      ∨ (inB k0 1 2 = true ∧ inB s0 0 4096 = true ∧ inB l0 0 10000 = true ∧ inB o0 1 16777215 = true ∧ inB n0 0 16777215 = true ∧ k0 = 2 ∧ ¬ l0 = 1)
      ∨ (inB k0 1 2 = true ∧ inB s0 0 4096 = true ∧ inB l0 0 10000 = true ∧ inB o0 1 16777215 = true ∧ inB n0 0 16777215 = true ∧ k0 = 2 ∧ l0 = 1 ∧ ¬ Int.tmod s0 128 = 0) := by
    unfold hdr at hb
    cases e1 : inB k0 1 2
    · simp
    cases e2 : inB s0 0 4096
    · simp
    cases e3 : inB l0 0 10000
    · simp
    cases e4 : inB o0 1 16777215
    · simp
    cases e5 : inB n0 0 16777215
    · simp
    simp only [e1, e2, e3, e4, e5, Bool.true_and] at hb
    by_cases h2 : k0 = 2
    · by_cases h1 : l0 = 1
      · subst h2; subst h1
        have hs : 0 ≤ s0 := by simp [inB] at e2; exact e2.1
        simp at hb
        have : Int.tmod s0 128 = s0 % 128 := Int.tmod_eq_emod_of_nonneg hs
        simp [this]
        simp [hb]
      · simp [h2, h1]
    · simp [h2] at hb
  clear hb
  rcases hcases with e1 | ⟨e1, e2⟩ | ⟨e1, e2, e3⟩ | ⟨e1, e2, e3, e4⟩ | ⟨e1, e2, e3, e4, e5⟩ | ⟨e1, e2, e3, e4, e5, h2, h1⟩ | ⟨e1, e2, e3, e4, e5, h2, h1, hr⟩
  rotate_left 5
  · subst h2
    go_enter Try.func23, Try.ntmps23
    go_wp2_with (go_at_call 32; refine (in_any _ _ _ _).mono ?_; rintro e w1 ⟨rfl, rfl⟩)
    go_ret
    exact ⟨rfl, (Below.refl _ _).alloc (Nat.le_refl _) _⟩
  · subst h2; subst h1
    go_enter Try.func23, Try.ntmps23
    go_wp2_with (go_at_call 32; refine (in_any _ _ _ _).mono ?_; rintro e w1 ⟨rfl, rfl⟩)
    go_ret
    exact ⟨rfl, (Below.refl _ _).alloc (Nat.le_refl _) _⟩
  all_goals by_cases h2 : k0 = 2
  all_goals try subst h2
  all_goals try exact absurd e1 (by decide)
  all_goals
    go_enter Try.func23, Try.ntmps23
    go_wp2_with (go_at_call 32; refine (in_any _ _ _ _).mono ?_; rintro e w1 ⟨rfl, rfl⟩)
    go_ret
    exact ⟨rfl, (Below.refl _ _).alloc (Nat.le_refl _) _⟩
end Go.Proofs.Ytgfhepfikphliaa.In
