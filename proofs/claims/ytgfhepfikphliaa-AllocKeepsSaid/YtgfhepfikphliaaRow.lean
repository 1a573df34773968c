/-
  A row of numbers in memory (an inode's variable): what its loads and stores do, in words.
-/
import Derived.Test.YtgfhepfikphliaaInode0
import Derived.Deep.MidRow
import Derived.Laws.IdiomCopy
namespace Go.Proofs.Ytgfhepfikphliaa.In
open Go.RowKit Wd
set_option linter.unusedVariables false

/-- block b holds the numbers xs, and may be written -/
structure IRow (w : World) (b : Nat) (xs : List Int) : Prop where
  cell : ∀ i v, xs[i]? = some v → w.cell? ⟨b, i, none⟩ = some (.int .i64 v)
  fz : ∀ i : Nat, w.frozen? ⟨b, i, none⟩ = false
/-- only block b has turned -/
structure Only (b : Nat) (w w' : World) : Prop where
  low : ∀ B, B ≤ b → Below B w w'
  block : ∀ k, k ≠ b → w'.heap[k]? = w.heap[k]?

theorem Only.refl (b : Nat) (w : World) : Only b w w := ⟨fun _ _ => Below.refl _ _, fun _ _ => rfl⟩
theorem Only.trans {b : Nat} {x y z : World} (h : Only b x y) (k : Only b y z) : Only b x z := ⟨fun B hB => (h.low B hB).trans (k.low B hB), fun i hi => (k.block i hi).trans (h.block i hi)⟩
theorem Only.size {b : Nat} {w w' : World} (h : Only b w w') : w.heap.size ≤ w'.heap.size := (h.low 0 (Nat.zero_le _)).size
theorem Only.setCell (b i : Nat) (w : World) (v : Value) : Only b w (w.setCell ⟨b, i, none⟩ v) := ⟨fun B hB => (Below.refl B w).setCell (p := ⟨b, i, none⟩) hB v, fun k hk => Below.heap_setCell _ _ _ _ hk⟩
theorem Only.setCells (b : Nat) : ∀ (vs : List Value) (o : Nat) (w : World), Only b w (w.setCells b o vs)
  | [], _, w => Only.refl b w
  | v :: r, o, w => (Only.setCell b o w v).trans (Only.setCells b r (o + 1) _)
theorem Only.cell {b : Nat} {w w' : World} (h : Only b w w') {p : Addr} (hp : p.block ≠ b) : w'.cell? p = w.cell? p := World.cell?_of_block (w := w) (h.block p.block hp)
theorem Only.below {B b : Nat} {a w w' : World} (h : Below B a w) (ho : Only b w w') (hb : B ≤ b) : Below B a w' := h.trans (ho.low B hb)
theorem Sl.only {w w' : World} {B size n b : Nat} {A : Option Addr} {xs : List Value} (h : Sl w B size A n xs) (ho : Only b w w') (hb : B ≤ b) : Sl w' B size A n xs :=
  h.keep fun p hp => ho.cell (by omega)

theorem IRow.new (w : World) (xs : List Int) (t : TypeId) : IRow (w.alloc (.cells (ints xs) t)) w.heap.size xs :=
  ⟨fun i v h => by
    rw [cell_of_row _ _ i _ _ (0, 0) (heap_alloc_new w _)]
    simp [ints, h], fun i => World.frozen?_alloc_new w _ _ i⟩
theorem IRow.of_block {w w' : World} {b : Nat} {xs : List Int} (h : IRow w b xs) (hb : w'.heap[b]? = w.heap[b]?) : IRow w' b xs :=
  ⟨fun i v hv => (World.cell?_of_block (w := w) hb).trans (h.cell i v hv), fun i => (World.frozen?_of_block (w := w) hb).trans (h.fz i)⟩
theorem IRow.below {w w' : World} {B b : Nat} {xs : List Int} (h : IRow w b xs) (hb : Below B w w') (hlt : b < B) : IRow w' b xs := h.of_block (hb.block b hlt)
theorem IRow.only {w w' : World} {b b' : Nat} {xs : List Int} (h : IRow w b xs) (ho : Only b' w w') (hne : b ≠ b') : IRow w' b xs := h.of_block (ho.block b hne)
theorem IRow.drewN {w : World} {b : Nat} {xs : List Int} (h : IRow w b xs) (n : Nat) : IRow (w.drewN n) b xs := ⟨fun i v hv => by rw [World.cell?_drewN]; exact h.cell i v hv, h.fz⟩
theorem IRow.lt {w : World} {b : Nat} {xs : List Int} (h : IRow w b xs) (h0 : 0 < xs.length) : b < w.heap.size := by
  have := h.cell 0 xs[0] (List.getElem?_eq_getElem h0)
  exact World.block_lt_of_cell? _ _ this
theorem IRow.set {w : World} {b : Nat} {xs : List Int} (h : IRow w b xs) (i : Nat) (v : Int) (hi : i < xs.length) : IRow (w.setCell ⟨b, i, none⟩ (.int .i64 v)) b (xs.set i v) := by
  refine ⟨fun j u hj => ?_, fun j => (World.frozen?_setCell _ _ _ _).trans (h.fz j)⟩
  by_cases hji : j = i
  · subst hji
    rw [List.getElem?_set_self hi] at hj
    injection hj with hj
    subst hj
    exact World.cell?_setCell_same' _ _ _ (by rw [h.cell j _ (List.getElem?_eq_getElem hi)]; rfl)
  · rw [List.getElem?_set_ne (fun e => hji e.symm)] at hj
    rw [World.cell?_setCell_other _ _ _ _ (by simp <;> omega)]
    exact h.cell j u hj
theorem IRow.range {w : World} {b : Nat} {xs : List Int} (h : IRow w b xs) : w.rangeAt b 0 (xs.map (Value.int .i64)) := by
  intro j v hj
  rw [List.getElem?_map] at hj
  cases hx : xs[j]? with
  | none => rw [hx] at hj; cases hj
  | some x =>
    rw [hx] at hj
    injection hj with hj
    subst hj
    rw [Nat.zero_add]
    exact h.cell j x hx
theorem IRow.there {w : World} {b : Nat} {xs : List Int} (h : IRow w b xs) (n : Nat) (hn : n = xs.length) : w.there b 0 n := by
  intro j hj
  rw [Nat.zero_add]
  exact ⟨by rw [h.cell j _ (List.getElem?_eq_getElem (by omega))]; rfl, h.fz j⟩
theorem ints_one (ys : List Int) : (ints ys).all (·.oneCell') = true := by
  refine all_oneCell_toArray fun v hv => ?_
  obtain ⟨_, _, rfl⟩ := List.mem_map.1 hv
  rfl
theorem ints_size (ys : List Int) : (ints ys).size = ys.length := by simp [ints]
theorem IRow.put {w : World} {b : Nat} {xs ys : List Int} (h : IRow w b xs) (hl : ys.length = xs.length) : IRow (w.setCells b 0 (ints ys).toList) b ys := by
  refine ⟨fun i v hv => ?_, fun i => ?_⟩
  · have := World.rangeAt_setCells_same w b 0 (ints ys).toList (h.there _ (by simp [ints, hl])) i (.int .i64 v) (by simp [ints, hv])
    rwa [Nat.zero_add] at this
  · rw [World.frozen?_setCells]
    exact h.fz i

theorem inoInfo : (Try.prog.info? 24).map (·.size) = some 37 := by kernel_rfl
section
variable {ops : Array Oper} {Q : Exit → Act → World → Prop} {a : Act} {w : World} {rest : List Oper} {o : Oper}
/-- the whole variable is read -/
theorem wpList_load_ino (hw : Region.wanted o (yielded ops a.tmps) = true) (x : Operand) (ho : o.op = .load 24 x) {b : Nat} {xs : List Int} (h : IRow w b xs) (hl : xs.length = 37) (hx : a.eval x = .pointer (some ⟨b, 0, none⟩))
    (hK : wpList Try.prog ops Q rest (a.put o.dst (.agg (ints xs))) w) : wpList Try.prog ops Q (o :: rest) a w := by
  refine wpList_val hw (.agg (ints xs)) w ?_ hK
  have := run_loadAt_mid (P := Try.prog) w b 0 24 (xs.map (Value.int .i64)) _ h.range Try.underlying24 rfl (by rw [List.length_map, hl]; exact inoInfo)
  have hi : (xs.map (Value.int .i64)).toArray = ints xs := rfl
  rw [hi] at this
  unfold execOp
  simp [ho, hx, this]
/-- the whole variable is written -/
theorem wpList_store_ino (hg : o.guard = none) (x y : Operand) (ho : o.op = .store 24 x y) {b : Nat} {xs ys : List Int} (h : IRow w b xs) (hl : xs.length = 37) (hly : ys.length = 37)
    (hx : a.eval x = .pointer (some ⟨b, 0, none⟩)) (hy : a.eval y = .agg (ints ys))
    (hK : ∀ w', IRow w' b ys → Only b w w' → wpList Try.prog ops Q rest (a.put o.dst undef) w') : wpList Try.prog ops Q (o :: rest) a w :=
  wpList_store_mid hg 24 x y ho b 0 (ints ys) hx hy (h.there _ (by rw [ints_size]; omega)) (by rw [ints_size, hly]; exact inoInfo) (ints_one ys) (hK _ (h.put (by omega)) (Only.setCells b _ 0 w))
/-- one number is written -/
theorem wpList_store_num (hg : o.guard = none) (t : TypeId) (x y : Operand) (ho : o.op = .store t x y) (ht : Try.prog.underlying t = some (.int .i64)) (hs : (Try.prog.info? t).map (·.size) = some 1) {b : Nat} {xs : List Int} (h : IRow w b xs) (hl : xs.length = 37) (i : Nat) (v : Int) (hi : i < 37)
    (hx : a.eval x = .pointer (some ⟨b, i, none⟩)) (hy : a.eval y = .int .i64 v)
    (hK : ∀ w', IRow w' b (xs.set i v) → Only b w w' → (xs.set i v).length = 37 → wpList Try.prog ops Q rest (a.put o.dst undef) w') : wpList Try.prog ops Q (o :: rest) a w := by
  refine wpList_skipped (by simp [Region.wanted, hg]) (w.setCell ⟨b, i, none⟩ (.int .i64 v)) ?_ (hK _ (h.set i v (by omega)) (Only.setCell b i w _) ((List.length_set ..).trans hl))
  replace hi : i < xs.length := by omega
  have h1 := h.cell i _ (List.getElem?_eq_getElem hi)
  have h2 := h.fz i
  have h3 := run_sizeOf Try.prog w t 1 hs
  clear hK
  unfold execOp
  generalize a.eval = ρ at *
  simp [ho, hx, hy, go_sem, h1, h2, h3]
/-- one number is read -/
theorem wpList_load_num (hw : Region.wanted o (yielded ops a.tmps) = true) (t : TypeId) (x : Operand) (ho : o.op = .load t x) (ht : Try.prog.underlying t = some (.int .i64)) {b : Nat} {xs : List Int} (h : IRow w b xs) (i : Nat) (v : Int) (hi : xs[i]? = some v)
    (hx : a.eval x = .pointer (some ⟨b, i, none⟩)) (hK : wpList Try.prog ops Q rest (a.put o.dst (.int .i64 v)) w) : wpList Try.prog ops Q (o :: rest) a w := by
  refine wpList_val hw (.int .i64 v) w ?_ hK
  have h1 := h.cell i v hi
  have hag : (isAgg t).run Try.prog w = .ok false w := by simp [isAgg, run_underlying ht]
  clear hK
  unfold execOp
  generalize a.eval = ρ at *
  simp [ho, hx, go_sem, h1, hag]
/-- the zero inode -/
def zIno : List Int := List.replicate 37 0
theorem zIno_len : zIno.length = 37 := by simp [zIno]
theorem builtIno : Try.prog.built 24 [] = some (ints zIno) := by kernel_rfl
theorem zeroInoI : (Try.prog.info? 24).map (fun i => i.zero) = some (some (.agg (ints zIno))) := by kernel_rfl
theorem wpList_build_ino (hw : Region.wanted o (yielded ops a.tmps) = true) (ho : o.op = .build 24 #[]) (hK : wpList Try.prog ops Q rest (a.put o.dst (.agg (ints zIno))) w) : wpList Try.prog ops Q (o :: rest) a w := by
  refine wpList_val hw (.agg (ints zIno)) w ?_ hK
  unfold execOp
  simp [ho, run_build w _ #[] _ builtIno]
theorem wpList_alloc_ino (hg : o.guard = none) (ho : o.op = .alloc 24) (hK : ∀ w', IRow w' w.heap.size zIno → Below w.heap.size w w' → w.heap.size < w'.heap.size → wpList Try.prog ops Q rest (a.put o.dst (.pointer (some ⟨w.heap.size, 0, none⟩))) w') : wpList Try.prog ops Q (o :: rest) a w := by
  refine wpList_val (by simp [Region.wanted, hg]) (.pointer (some ⟨w.heap.size, 0, none⟩)) (w.alloc (.cells (ints zIno) 24)) ?_ (hK _ (IRow.new w zIno _) ((Below.refl _ _).alloc (Nat.le_refl _) _) (by simp))
  have h := zeroInoI
  clear hK
  unfold execOp
  generalize a.eval = ρ at *
  cases hi : Try.prog.info? 24 with
  | none => rw [hi] at h; cases h
  | some i =>
    rw [hi] at h
    have hz : i.zero = some (.agg (ints zIno)) := by simpa using h
    simp [ho, Instr.alloc, zeroValue, typeInfo, hi, hz, newVar, newRow, Value.cells]
/-- a parameter is laid into a row of its own -/
theorem wpList_box_ino (hg : o.guard = none) (x : Operand) (ho : o.op = .box 24 x) {xs : List Int} (hl : xs.length = 37) (hx : a.eval x = .agg (ints xs))
    (hK : ∀ w', IRow w' w.heap.size xs → Below w.heap.size w w' → w.heap.size < w'.heap.size → wpList Try.prog ops Q rest (a.put o.dst (.pointer (some ⟨w.heap.size, 0, none⟩))) w') : wpList Try.prog ops Q (o :: rest) a w := by
  refine wpList_val (by simp [Region.wanted, hg]) (.pointer (some ⟨w.heap.size, 0, none⟩)) (w.alloc (.cells (ints xs) 24)) ?_ (hK _ (IRow.new w xs _) ((Below.refl _ _).alloc (Nat.le_refl _) _) (by simp))
  clear hK
  unfold execOp
  generalize a.eval = ρ at *
  simp [ho, hx, go_sem, Value.cells]
end
/-- what a function hands back: a variable, and a slot -/
theorem results_ino {fn : Func} {r u : Tmp} (h : fn.results = #[.cell r 24, .tmp u]) {w : World} {b : Nat} {xs : List Int} (hr : IRow w b xs) (hl : xs.length = 37) (tmps : Array Value) (hp : tmps.getD r undef = .pointer (some ⟨b, 0, none⟩)) :
    (results fn tmps).run Try.prog w = .ok (.tuple #[.agg (ints xs), tmps.getD u undef]) w := by
  have := run_loadVar_mid (P := Try.prog) w b 0 24 (xs.map (Value.int .i64)) _ hr.range Try.underlying24 rfl (by rw [List.length_map, hl]; exact inoInfo)
  have hi : (xs.map (Value.int .i64)).toArray = ints xs := rfl
  rw [hi] at this
  rw [Array.getD_eq_getD_getElem?] at hp
  simp [results, h, hp, asAddr, this]
end Go.Proofs.Ytgfhepfikphliaa.In
