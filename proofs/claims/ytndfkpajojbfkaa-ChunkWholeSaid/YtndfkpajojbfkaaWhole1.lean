/-
  For 'ChunkWhole': a variable that holds 32 slices; a row of the call's own that is cut, and written in its middle.
-/
import Derived.Test.YtndfkpajojbfkaaWhole0
import Derived.Test.YtndfkpajojbfkaaRely
import Derived.Deep.MidRow
namespace Go.Proofs.Ytndfkpajojbfkaa.Ck
open Go.RowKit Wd Is Sp Fl Ga By
set_option linter.unusedVariables false

/-- block b8 holds the blocks' slices; each reads as its bytes; none lies in the row 'own' -/
structure Blk (w : World) (b8 : Nat) (own : Option Nat) (B : Bls) : Prop where
  cell : ∀ k : Nat, k < 32 → ∃ A c, w.cell? ⟨b8, k, none⟩ = some (.slice A (B k).length c) ∧ Sl w w.heap.size 1 A (B k).length ((B k).map bv) ∧ ∀ ad, A = some ad → 0 < (B k).length → own ≠ some ad.block ∧ ad.block ≠ b8
  fz : ∀ i : Nat, w.frozen? ⟨b8, i, none⟩ = false
  own8 : own ≠ some b8
  lt : b8 < w.heap.size
  far : ∀ i : Nat, 32 ≤ i → w.cell? ⟨b8, i, none⟩ = none
theorem sl_block {w w' : World} {n : Nat} {A : Option Addr} {xs : List Value} (h : Sl w w.heap.size 1 A n xs) (hs : w.heap.size ≤ w'.heap.size) (hk : ∀ ad, A = some ad → 0 < n → w'.heap[ad.block]? = w.heap[ad.block]?) : Sl w' w'.heap.size 1 A n xs :=
  ⟨h.1, fun hn => by
    obtain ⟨ad, e, hb, hc⟩ := h.2 hn
    refine ⟨ad, e, Nat.lt_of_lt_of_le hb hs, fun j u hj => ?_⟩
    have hb2 : (ad.add j).block = ad.block := by unfold Addr.add; split <;> rfl
    exact (World.cell?_of_block (w := w) (by rw [hb2]; exact hk ad e hn)).trans (hc j u hj)⟩
theorem Blk.move {w w' : World} {b8 : Nat} {own own' : Option Nat} {B : Bls} (h : Blk w b8 own B) (hs : w.heap.size ≤ w'.heap.size) (h8 : w'.heap[b8]? = w.heap[b8]?)
    (hk : ∀ g, g < w.heap.size → own ≠ some g → g ≠ b8 → w'.heap[g]? = w.heap[g]? ∧ own' ≠ some g) (ho8 : own' ≠ some b8) : Blk w' b8 own' B := by
  refine ⟨fun k hk2 => ?_, fun i => (World.frozen?_of_block (w := w) h8).trans (h.fz i), ho8, Nat.lt_of_lt_of_le h.lt hs, fun i hi => (World.cell?_of_block (w := w) h8).trans (h.far i hi)⟩
  obtain ⟨A, c, h1, h2, h3⟩ := h.cell k hk2
  have hin : ∀ ad, A = some ad → 0 < (B k).length → ad.block < w.heap.size := fun ad e hn => by
    obtain ⟨ad', e', hb, _⟩ := h2.2 hn
    rw [e] at e'
    injection e' with e'
    subst e'
    exact hb
  refine ⟨A, c, (World.cell?_of_block (w := w) h8).trans h1, sl_block h2 hs fun ad e hn => (hk _ (hin ad e hn) (h3 ad e hn).1 (h3 ad e hn).2).1, fun ad e hn => ⟨(hk _ (hin ad e hn) (h3 ad e hn).1 (h3 ad e hn).2).2, (h3 ad e hn).2⟩⟩
theorem Blk.on {w w' : World} {b8 : Nat} {own : Option Nat} {B : Bls} (h : Blk w b8 own B) (hb : Below w.heap.size w w') : Blk w' b8 own B :=
  h.move hb.size (hb.block _ h.lt) (fun g hg ho _ => ⟨hb.block _ hg, ho⟩) h.own8
/-- the file's row grows, or moves -/
theorem Blk.grown {w w' : World} {b8 : Nat} {own own' : Option Nat} {B : Bls} (h : Blk w b8 own B) (hg : w.grownBy w' own) (hat : own' = own ∨ own' = some w.heap.size) : Blk w' b8 own' B := by
  refine h.move hg.size (hg.block _ h.lt (fun e => h.own8 e.symm)) (fun g hlt ho _ => ⟨hg.block _ hlt (fun e => ho e.symm), ?_⟩) ?_
  · rcases hat with rfl | rfl
    · exact ho
    · intro e
      injection e with e
      omega
  · rcases hat with rfl | rfl
    · exact h.own8
    · intro e
      injection e with e
      have := h.lt
      omega
/-- the file's row is written -/
theorem Blk.only {w w' : World} {b8 g : Nat} {own : Option Nat} {B : Bls} (h : Blk w b8 own B) (ho : own = some g) (hw : Only g w w') : Blk w' b8 own B :=
  h.move hw.size (hw.block _ (fun e => h.own8 (by rw [ho, e]))) (fun k _ hne _ => ⟨hw.block _ (fun e => hne (by rw [ho, e])), hne⟩) h.own8
/-- one cell is laid anew -/
theorem Blk.store {w : World} {b8 : Nat} {own : Option Nat} {B : Bls} (h : Blk w b8 own B) (k : Nat) (hk : k < 32) {A : Option Addr} {n c : Nat} {L : List UInt8} (hn : n = L.length) (hs : Sl w w.heap.size 1 A n (L.map bv))
    (ha : ∀ ad, A = some ad → 0 < n → own ≠ some ad.block ∧ ad.block ≠ b8) : Blk (w.setCell ⟨b8, k, none⟩ (.slice A n c)) b8 own (fun i => if i = k then L else B i) := by
  subst hn
  have hob : Only b8 w (w.setCell ⟨b8, k, none⟩ (.slice A L.length c)) := Only.setCell b8 k w _
  refine ⟨fun i hi => ?_, fun i => (World.frozen?_setCell _ _ _ _).trans (h.fz i), h.own8, Nat.lt_of_lt_of_le h.lt hob.size, fun i hi => by rw [World.cell?_setCell_other _ _ _ _ (by simp <;> omega)]; exact h.far i hi⟩
  by_cases he : i = k
  · subst he
    rw [if_pos rfl]
    obtain ⟨A0, c0, h1, _, _⟩ := h.cell i hi
    exact ⟨A, c, World.cell?_setCell_same' _ _ _ (by rw [h1]; rfl), sl_block hs hob.size fun ad e hn => hob.block _ (ha ad e hn).2, ha⟩
  · rw [if_neg he]
    obtain ⟨A0, c0, h1, h2, h3⟩ := h.cell i hi
    refine ⟨A0, c0, ?_, sl_block h2 hob.size fun ad e hn => hob.block _ (h3 ad e hn).2, h3⟩
    rw [World.cell?_setCell_other _ _ _ _ (by simp <;> omega)]
    exact h1
/-- a block is laid anew in a row that was not there -/
theorem Blk.lay {wA w : World} {b8 g : Nat} {own : Option Nat} {B : Bls} (h : Blk wA b8 own B) (k : Nat) {L : List UInt8} (hL : L.length = 128) (hs : wA.heap.size ≤ w.heap.size) (hblk : ∀ j, j < wA.heap.size → j ≠ b8 → w.heap[j]? = wA.heap[j]?)
    (hcell : ∀ i : Nat, i ≠ k → w.cell? ⟨b8, i, none⟩ = wA.cell? ⟨b8, i, none⟩) (hfz : ∀ i : Nat, w.frozen? ⟨b8, i, none⟩ = false) (hk : k < 32) (hck : w.cell? ⟨b8, k, none⟩ = some (.slice (some ⟨g, 0, none⟩) 128 128)) (hsl : Sl w w.heap.size 1 (some ⟨g, 0, none⟩) 128 (L.map bv))
    (hg : wA.heap.size ≤ g) (hown : own ≠ some g) : Blk w b8 own (fun i => if i = k then L else B i) := by
  refine ⟨fun i hi => ?_, hfz, h.own8, Nat.lt_of_lt_of_le h.lt hs, fun i hi => (hcell i (by omega)).trans (h.far i hi)⟩
  by_cases he : i = k
  · subst he
    rw [if_pos rfl, hL]
    refine ⟨_, _, hck, hsl, fun ad e _ => ?_⟩
    injection e with e
    subst e
    have := h.lt
    exact ⟨hown, by show g ≠ b8; omega⟩
  · rw [if_neg he]
    obtain ⟨A, c, h1, h2, h3⟩ := h.cell i hi
    refine ⟨A, c, (hcell i he).trans h1, sl_block h2 hs fun ad e hn => ?_, h3⟩
    obtain ⟨ad', e', hb, _⟩ := h2.2 hn
    rw [e] at e'
    injection e' with e'
    subst e'
    exact hblk _ hb (h3 ad e hn).2
/-- a number does not lie among the slices -/
theorem Blk.apart {w : World} {b8 b off : Nat} {own : Option Nat} {B : Bls} (h : Blk w b8 own B) {k : IntKind} {z : Int} (hc : w.cell? ⟨b, off, none⟩ = some (.int k z)) : b ≠ b8 := by
  rintro rfl
  by_cases hi : off < 32
  · obtain ⟨A, c, h1, _, _⟩ := h.cell off hi
    rw [hc] at h1
    cases h1
  · rw [h.far off (by omega)] at hc
    cases hc

def nilV : Value := .slice none 0 0
theorem zeroBls : (Try.prog.info? 42).map (fun i => i.zero) = some (some (.agg (Array.replicate 32 (.slice none 0 0)))) := by kernel_rfl
theorem sizeSl : (Try.prog.info? 36).map (·.size) = some 1 := by kernel_rfl
section
variable {ops : Array Oper} {Q : Exit → Act → World → Prop} {a : Act} {w : World} {rest : List Oper} {o : Oper}
theorem wpList_alloc_bls (hg : o.guard = none) (ho : o.op = .alloc 42) (own : Option Nat) (hown : own ≠ some w.heap.size)
    (hK : ∀ w', Blk w' w.heap.size own (fun _ => []) → Below w.heap.size w w' → wpList Try.prog ops Q rest (a.put o.dst (.pointer (some ⟨w.heap.size, 0, none⟩))) w') : wpList Try.prog ops Q (o :: rest) a w := by
  refine wpList_val (by simp [Region.wanted, hg]) (.pointer (some ⟨w.heap.size, 0, none⟩)) (w.alloc (.cells (Array.replicate 32 (.slice none 0 0)) 42)) ?_ (hK _ ⟨fun k hk => ⟨none, 0, ?_, Sl.nil _, fun ad e => by cases e⟩, fun i => World.frozen?_alloc_new w _ _ i, hown, by simp, fun i hi => by rw [cell_of_row _ _ i _ _ (0, 0) (heap_alloc_new w _)]; simp [hi]⟩ ((Below.refl _ _).alloc (Nat.le_refl _) _))
  · have h := zeroBls
    clear hK
    unfold execOp
    generalize a.eval = ρ at *
    cases hi : Try.prog.info? 42 with
    | none => rw [hi] at h; cases h
    | some i =>
      rw [hi] at h
      have hz : i.zero = some (.agg (Array.replicate 32 (.slice none 0 0))) := by simpa using h
      simp [ho, Instr.alloc, zeroValue, typeInfo, hi, hz, newVar, newRow, Value.cells]
  · rw [cell_of_row _ _ k _ _ (0, 0) (heap_alloc_new w _)]
    simp [hk]
theorem wpList_load_sl (hw : Region.wanted o (yielded ops a.tmps) = true) (x : Operand) (ho : o.op = .load 36 x) {p : Addr} {v : Value} (hc : w.cell? p = some v) (hx : a.eval x = .pointer (some p))
    (hK : wpList Try.prog ops Q rest (a.put o.dst v) w) : wpList Try.prog ops Q (o :: rest) a w := by
  refine wpList_val hw v w ?_ hK
  have hag : (isAgg 36).run Try.prog w = .ok false w := by simp [isAgg, run_underlying Try.underlying36]
  clear hK
  unfold execOp
  generalize a.eval = ρ at *
  simp [ho, hx, go_sem, hc, hag]
theorem wpList_store_raw (hg : o.guard = none) (x y : Operand) (ho : o.op = .store 36 x y) {b8 : Nat} {own : Option Nat} {B : Bls} (h : Blk w b8 own B) (k : Nat) (hk : k < 32) {A : Option Addr} {n c : Nat}
    (hx : a.eval x = .pointer (some ⟨b8, k, none⟩)) (hy : a.eval y = .slice A n c) (hK : ∀ w', w' = w.setCell ⟨b8, k, none⟩ (.slice A n c) → w'.cell? ⟨b8, k, none⟩ = some (.slice A n c) → wpList Try.prog ops Q rest (a.put o.dst undef) w') : wpList Try.prog ops Q (o :: rest) a w := by
  obtain ⟨A0, c0, h1, _, _⟩ := h.cell k hk
  have hsame : (w.setCell ⟨b8, k, none⟩ (.slice A n c)).cell? ⟨b8, k, none⟩ = some (.slice A n c) := World.cell?_setCell_same' _ _ _ (by rw [h1]; rfl)
  refine wpList_skipped (by simp [Region.wanted, hg]) (w.setCell ⟨b8, k, none⟩ (.slice A n c)) ?_ (hK _ rfl hsame)
  have h2 := h.fz k
  have h3 : (sizeOf 36).run Try.prog w = .ok 1 w := by
    have := sizeSl
    cases hi : Try.prog.info? 36 with
    | none => rw [hi] at this; cases this
    | some i =>
      rw [hi] at this
      have hz : i.size = 1 := by simpa using this
      unfold sizeOf typeInfo
      simp [hi, hz]
  clear hK hsame
  unfold execOp
  generalize a.eval = ρ at *
  simp [ho, hx, hy, go_sem, h1, h2, h3]
theorem wpList_store_sl (hg : o.guard = none) (x y : Operand) (ho : o.op = .store 36 x y) {b8 : Nat} {own : Option Nat} {B : Bls} (h : Blk w b8 own B) (k : Nat) (hk : k < 32) {A : Option Addr} {n c : Nat} {L : List UInt8} (hn : n = L.length)
    (hx : a.eval x = .pointer (some ⟨b8, k, none⟩)) (hy : a.eval y = .slice A n c) (hs : Sl w w.heap.size 1 A n (L.map bv)) (ha : ∀ ad, A = some ad → 0 < n → own ≠ some ad.block ∧ ad.block ≠ b8)
    (hK : ∀ w', Blk w' b8 own (fun i => if i = k then L else B i) → Only b8 w w' → wpList Try.prog ops Q rest (a.put o.dst undef) w') : wpList Try.prog ops Q (o :: rest) a w :=
  wpList_store_raw hg x y ho h k hk hx hy fun w' e _ => by
    subst e
    exact hK _ (h.store k hk hn hs ha) (Only.setCell b8 k w _)
end
/-! ### a row of the call's own -/
theorem own_take {w : World} {base n c d : Nat} {e : TypeId} {A : Option Addr} {xs : List Value} (h : w.ownsRow base e 1 (.slice A n c) n xs) (hd : d ≤ n) (h0 : 0 < n) : w.ownsRow base e 1 (.slice A d c) d (xs.take d) := by
  have hl := h.1
  refine ⟨by rw [List.length_take]; omega, ?_⟩
  rcases h.2 with ⟨_, h1⟩ | ⟨g, cap, cur, hv, hb, hg, hn, hm, hs, hx⟩
  · omega
  · injection hv with h1 h2 h3
    subst h1; subst h3
    refine .inr ⟨g, c, cur, rfl, hb, hg, by omega, hm, hs, ?_⟩
    rw [← hx, List.take_take]
    congr 1
    omega
/-- 's[:d]' -/
theorem wpList_slice_head {w : World} {ops : Array Oper} {rest : List Oper} {o : Oper} {a : Act} {Q : Exit → Act → World → Prop} (hgd : Region.wanted o (yielded ops a.tmps) = true) (s hi : Operand)
    (ho : o.op = .slice 36 s none (some hi) none) {A : Option Addr} {n c : Nat} (hs : a.eval s = .slice A n c) (d : Nat) (hh : a.eval hi = .int .i64 (d : Int)) (hd : d ≤ n) (hc : n ≤ c)
    (hK : wpList Try.prog ops Q rest (a.put o.dst (.slice A d c)) w) : wpList Try.prog ops Q (o :: rest) a w := by
  obtain ⟨i0, hi0, hz0, hz1, hz2⟩ := info_parts infoB
  refine wpList_wanted hgd fun K hK' => ?_
  have hrun := run_slice_sl (P := Try.prog) w 36 5 i0 Try.underlying36 hi0 A n c none (some (.int .i64 (d : Int))) none 0 d c (.inl ⟨rfl, rfl⟩) (.inr ⟨_, rfl⟩) (.inl ⟨rfl, rfl⟩) (Nat.zero_le _) (by omega) (Nat.le_refl _)
  have hA : (if c = 0 then A else A.map (·.add (0 * i0.size))) = A := by
    split
    · rfl
    · cases A with
      | none => rfl
      | some ad => rw [Nat.zero_mul]; simp [Addr.add]
  rw [hA, Nat.sub_zero, Nat.sub_zero] at hrun
  unfold Oper.wp execOp
  simp only [ho, hs, hh, Option.map_some, Option.map_none, hrun, Sem.run_bind, Sem.run_pure, Result.andThen_ok]
  exact hK' _ _ hK
/-- 's[p:]' of a row of the call's own -/
theorem wpList_slice_tail {w : World} {ops : Array Oper} {rest : List Oper} {o : Oper} {a : Act} {Q : Exit → Act → World → Prop} (hgd : Region.wanted o (yielded ops a.tmps) = true) (s lo : Operand)
    (ho : o.op = .slice 36 s (some lo) none none) {base : Nat} {A : Option Addr} {n c : Nat} {xs : List Value} (hs : a.eval s = .slice A n c) (hown : w.ownsRow base 5 1 (.slice A n c) n xs) (p : Nat) (hh : a.eval lo = .int .i64 (p : Int)) (hd : p ≤ n) (hc : n ≤ c)
    (hK : ∀ A', (0 < n - p → ∃ g, A = some ⟨g, 0, none⟩ ∧ A' = some ⟨g, p, none⟩) → wpList Try.prog ops Q rest (a.put o.dst (.slice A' (n - p) (c - p))) w) : wpList Try.prog ops Q (o :: rest) a w := by
  obtain ⟨i0, hi0, hz0, hz1, hz2⟩ := info_parts infoB
  refine wpList_wanted hgd fun K hK' => ?_
  have hrun := run_slice_sl (P := Try.prog) w 36 5 i0 Try.underlying36 hi0 A n c (some (.int .i64 (p : Int))) none none p n c (.inr ⟨_, rfl⟩) (.inl ⟨rfl, rfl, rfl⟩) (.inl ⟨rfl, rfl⟩) hd hc (Nat.le_refl _)
  unfold Oper.wp execOp
  simp only [ho, hs, hh, Option.map_some, Option.map_none, hrun, Sem.run_bind, Sem.run_pure, Result.andThen_ok]
  refine hK' _ _ (hK _ fun h0 => ?_)
  rcases hown.2 with ⟨_, h1⟩ | ⟨g, cap, cur, hv, _⟩
  · omega
  · injection hv with h1 h2 h3
    refine ⟨g, h1, ?_⟩
    rw [if_neg (by omega), h1, hz1, Nat.mul_one]
    show some (Addr.add _ _) = _
    rw [Addr.add_lit, Nat.zero_add]
theorem own_fz {w : World} {base n g c : Nat} {e : TypeId} {xs : List Value} (h : w.ownsRow base e 1 (.slice (some ⟨g, 0, none⟩) n c) n xs) (j : Nat) : w.frozen? ⟨g, j, none⟩ = false := by
  rcases h.2 with ⟨h, _⟩ | ⟨g', cap, cur, hv, _, hg, _⟩
  · cases h
  · injection hv with hA
    injection hA with hA
    injection hA with hA
    subst hA
    simp [World.frozen?, hg]
/-- copy into the middle of a row of the call's own -/
theorem run_copy_mid (w : World) (ty : TypeId) {base n c m cm : Nat} {A A' Ad : Option Addr} {M d : List UInt8} {cd p : Nat} (hown : w.ownsRow base 5 1 (.slice A n c) n (M.map bv)) (hn : n = M.length) (hm : m = n - p)
    (hA : 0 < n - p → ∃ g, A = some ⟨g, 0, none⟩ ∧ A' = some ⟨g, p, none⟩) (hd : d = [] ∨ p + d.length ≤ M.length) {B2 : Nat} (hs : Sl w B2 1 Ad d.length (d.map bv)) :
    ∃ w' v, (Builtin.copy_ #[36, 36] ty #[.slice A' m cm, .slice Ad d.length cd]).run Try.prog w = .ok v w' ∧ w'.ownsRow base 5 1 (.slice A n c) n ((wrL M p d).map bv) ∧ (w' = w ∨ ∃ g, A = some ⟨g, 0, none⟩ ∧ Only g w w') := by
  have hi1 : (Try.prog.info? 5).map (·.size) = some 1 := by kernel_rfl
  subst hm
  by_cases h0 : d.length = 0
  · have hd0 : d = [] := List.eq_nil_of_length_eq_zero h0
    subst hd0
    have hr := run_copy_none (P := Try.prog) w 36 36 ty 5 A' Ad (n - p) cm ([] : List UInt8).length cd Try.underlying36 hi1 (by simp)
    exact ⟨w, _, hr, by rw [wrL_nil]; exact hown, .inl rfl⟩
  · have hd1 : p + d.length ≤ M.length := by
      rcases hd with rfl | h
      · exact absurd rfl h0
      · exact h
    obtain ⟨g, rfl, rfl⟩ := hA (by omega)
    obtain ⟨ad, rfl, _, hcell⟩ := hs.2 (by omega)
    have hsrc : ∀ (j : Nat) (v : Value), (d.map bv)[j]? = some v → w.cell? (ad.add j) = some v := fun j v hj => hcell j v hj
    have hth : ∀ j, j < n → w.cell? ⟨g, j, none⟩ = some (bv (M.getD j 0)) := fun j hj => (own_there hown j hj).1
    have hr := run_copy_cells (P := Try.prog) w 36 36 ty 5 g p (n - p) cm ad d.length cd (d.map bv) Try.underlying36 hi1 (by rw [List.length_map]; exact (Nat.min_eq_left (by omega)).symm) hsrc
      (fun j hj => by rw [List.length_map] at hj; rw [hth (p + j) (by omega)]; rfl) (fun j _ => own_fz hown _) (bv_one _)
    have ho := own_sets d p M w hown hd1
    exact ⟨_, _, hr, ho, .inr ⟨g, rfl, Only.setCells g _ p w⟩⟩
theorem wpList_copy_mid {ops : Array Oper} {Q : Exit → Act → World → Prop} {a : Act} {w : World} {rest : List Oper} {o : Oper} (hw : Region.wanted o (yielded ops a.tmps) = true) (s x : Operand)
    (ho : o.op = .call { callee := .builtin .copy, args := #[s, x], argTypes := #[36, 36] }) {base n c m cm : Nat} {A A' Ad : Option Addr} {M d : List UInt8} {cd p : Nat} (hown : w.ownsRow base 5 1 (.slice A n c) n (M.map bv)) (hn : n = M.length) (hm : m = n - p)
    (hA : 0 < n - p → ∃ g, A = some ⟨g, 0, none⟩ ∧ A' = some ⟨g, p, none⟩) (hd : d = [] ∨ p + d.length ≤ M.length) {B2 : Nat} (hs2 : Sl w B2 1 Ad d.length (d.map bv)) (hs : a.eval s = .slice A' m cm) (hx : a.eval x = .slice Ad d.length cd)
    (hK : ∀ w' v, w'.ownsRow base 5 1 (.slice A n c) n ((wrL M p d).map bv) → (w' = w ∨ ∃ g, A = some ⟨g, 0, none⟩ ∧ Only g w w') → wpList Try.prog ops Q rest (a.put o.dst v) w') : wpList Try.prog ops Q (o :: rest) a w := by
  obtain ⟨w', v, hr, h1, h2⟩ := run_copy_mid w o.type (cm := cm) (cd := cd) hown hn hm hA hd hs2
  refine wpList_val hw v w' ?_ (hK _ _ h1 h2)
  clear hK
  unfold execOp
  generalize a.eval = ρ at *
  simp only [ho, resolve, invoke, builtin, Sem.run_bind, Sem.run_pure, Result.andThen_ok, List.map_toArray, List.map_cons, List.map_nil, hs, hx, hr]
/-- Bytes hands back a row of the call's own -/
theorem bytes_own (A : Option Addr) (l : List UInt8) (c : Nat) (w : World) (hs : Sl w w.heap.size 1 A l.length (l.map bv)) (hc : l.length ≤ c) (hk : l.length ≤ 140737488355328) :
    Calls Try.prog 18 #[.slice A l.length c] w fun e w' => ∃ A' c', e = .returned (.slice A' l.length c') ∧ w'.ownsRow w.heap.size 5 1 (.slice A' l.length c') l.length (l.map bv) ∧ Below w.heap.size w w' := by
  obtain ⟨i0, hi, hz0, hz1, hz2⟩ := info_parts infoB
  go_enter Try.func18, Try.ntmps18
  go_wp2_with (at_builtin; refine wpList_append_mine rfl _ (.tmp 3) _ _ rfl w.heap.size 5 i0 (.int .u8 0) 1 1 hz1 hz2 rfl (by decide) _ _ _ rfl Mine.nil _ l.length (l.map bv) rfl (Gives.slice Try.underlying36 hi hz0 (by rw [hz1]; exact hs) (bv_one l)) (by simp only [maxLen]; omega) (by omega) (Nat.le_refl _) ?_; intro A3 c3 w3 hm3 hg3 hb3 hat3 hown3; simp only [Nat.zero_add, List.nil_append] at hown3)
  go_ret
  exact ⟨_, _, rfl, hown3 (.inr (World.ownsRow_nil _ _ _ _)), hb3⟩
theorem own_other {w w' : World} {base n s b : Nat} {e : TypeId} {v : Value} {xs : List Value} (h : w.ownsRow base e s v n xs) (ho : Only b w w') (hne : v.ownBlock ≠ some b) : w'.ownsRow base e s v n xs := by
  refine ⟨h.1, ?_⟩
  rcases h.2 with hn | ⟨g, cap, cur, rfl, hb, hgg, rest⟩
  · exact .inl hn
  · exact .inr ⟨g, cap, cur, rfl, hb, (ho.block g (fun e => hne (by rw [← e]; rfl))).trans hgg, rest⟩
theorem own_kept {w w' : World} {B n s : Nat} {e : TypeId} {v : Value} {xs : List Value} (h : w.ownsRow B e s v n xs) (hk : Below w.heap.size w w') : w'.ownsRow B e s v n xs := by
  refine ⟨h.1, ?_⟩
  rcases h.2 with hn | ⟨g, cap, cur, rfl, hb, hgg, rest⟩
  · exact .inl hn
  · exact .inr ⟨g, cap, cur, rfl, hb, (Below.block hk g (Array.getElem?_eq_some_iff.1 hgg).1).trans hgg, rest⟩
theorem own_in {w : World} {base n s : Nat} {e : TypeId} {v : Value} {xs : List Value} (h : w.ownsRow base e s v n xs) : ∀ g, v.ownBlock = some g → base ≤ g ∧ g < w.heap.size := by
  rcases h.2 with ⟨rfl, _⟩ | ⟨g, cap, cur, rfl, hb, hg, _⟩
  · intro g h; cases h
  · intro g' h
    have : g = g' := by simpa [Value.ownBlock] using h
    subst this
    exact ⟨hb, (Array.getElem?_eq_some_iff.1 hg).1⟩
/-- it reads as its list wherever a bound lies behind its block -/
theorem own_sl {w : World} {base n c g : Nat} {e : TypeId} {A : Option Addr} {xs : List Value} (h : w.ownsRow base e 1 (.slice A n c) n xs) (hg : ∀ b, (Value.slice A n c).ownBlock = some b → b < g) : Sl w g 1 A n xs := by
  have hs := Sl.own h
  refine ⟨hs.1, fun hn => ?_⟩
  obtain ⟨ad, e, hb, hc⟩ := hs.2 hn
  subst e
  exact ⟨ad, rfl, hg _ rfl, hc⟩
theorem run_copy_over (w : World) (ty : TypeId) {base g n c c2 : Nat} {A : Option Addr} {M l : List UInt8} (hn : n = M.length) (hM : w.ownsRow base 5 1 (.slice (some ⟨g, 0, none⟩) n c) n (M.map bv)) {B2 : Nat} (hl : Sl w B2 1 A l.length (l.map bv)) :
    ∃ w' v, (Builtin.copy_ #[36, 36] ty #[.slice (some ⟨g, 0, none⟩) n c, .slice A l.length c2]).run Try.prog w = .ok v w' ∧ w'.ownsRow base 5 1 (.slice (some ⟨g, 0, none⟩) n c) n ((over l M).map bv) ∧ Only g w w' := by
  have hi1 : (Try.prog.info? 5).map (·.size) = some 1 := by kernel_rfl
  subst hn
  by_cases hlm : l.length ≤ M.length
  · obtain ⟨w', v, hr, h1, h2⟩ := run_copy_mid (p := 0) (cm := c) (cd := c2) (d := l) (A' := some ⟨g, 0, none⟩) w ty hM rfl rfl (fun _ => ⟨g, rfl, rfl⟩) (by rw [Nat.zero_add]; exact .inr hlm) hl
    rw [Nat.sub_zero] at hr
    have e : wrL M 0 l = over l M := by
      unfold wrL over
      rw [List.take_zero, List.nil_append, Nat.zero_add, List.take_of_length_le hlm]
    rw [e] at h1
    refine ⟨w', v, hr, h1, ?_⟩
    rcases h2 with rfl | ⟨g', hg', ho⟩
    · exact Only.refl _ _
    · injection hg' with hg'
      injection hg' with hg'
      subst hg'
      exact ho
  · have hlp : 0 < l.length := by omega
    obtain ⟨ad, rfl, _, hcell⟩ := hl.2 hlp
    have hyl : (l.take M.length).length = Nat.min l.length M.length := by rw [List.length_take]; exact Nat.min_comm _ _
    have hyl2 : (l.take M.length).length = M.length := by rw [List.length_take]; omega
    have hsrc : ∀ (j : Nat) (v : Value), ((l.take M.length).map bv)[j]? = some v → w.cell? (ad.add j) = some v := by
      intro j v hj
      refine hcell j v ?_
      rw [List.map_take, List.getElem?_take] at hj
      split at hj
      · exact hj
      · cases hj
    have hr := run_copy_cells (P := Try.prog) w 36 36 ty 5 g 0 M.length c ad l.length c2 ((l.take M.length).map bv) Try.underlying36 hi1 (by rw [List.length_map]; exact hyl) hsrc
      (fun j hj => by rw [List.length_map] at hj; rw [Nat.zero_add, (own_there hM j (by omega)).1]; rfl) (fun j _ => by rw [Nat.zero_add]; exact own_fz hM j) (bv_one _)
    have hown := own_sets (l.take M.length) 0 M w hM (by omega)
    have e : M.take 0 ++ l.take M.length ++ M.drop (0 + (l.take M.length).length) = over l M := by
      unfold over
      rw [List.take_zero, List.nil_append, Nat.zero_add, hyl2, List.drop_of_length_le (Nat.le_refl _), List.drop_of_length_le (by omega)]
    rw [e] at hown
    exact ⟨_, _, hr, hown, Only.setCells g _ 0 w⟩
section
variable {Q : Exit → Act → World → Prop} {o : Oper} {a : Act} {w : World} {K : Act → World → Prop}
theorem wp_copy_over {s x : Operand} (ho : o.op = .call { callee := .builtin .copy, args := #[s, x], argTypes := #[36, 36] }) {base g n c c2 : Nat} {A : Option Addr} {M l : List UInt8} (hn : n = M.length)
    (hs : a.eval s = .slice (some ⟨g, 0, none⟩) n c) (hx : a.eval x = .slice A l.length c2) (hM : w.ownsRow base 5 1 (.slice (some ⟨g, 0, none⟩) n c) n (M.map bv)) {B2 : Nat} (hl : Sl w B2 1 A l.length (l.map bv))
    (hK : ∀ v w', w'.ownsRow base 5 1 (.slice (some ⟨g, 0, none⟩) n c) n ((over l M).map bv) → Only g w w' → K (a.put o.dst v) w') : Oper.wp Try.prog o a w K Q := by
  obtain ⟨w', v, hr, h1, h2⟩ := run_copy_over w o.type (c2 := c2) hn hM hl
  unfold Oper.wp execOp
  simp only [ho, resolve, invoke, builtin, Sem.run_bind, Sem.run_pure, Result.andThen_ok, List.map_toArray, List.map_cons, List.map_nil, hs, hx, hr]
  exact hK _ _ h1 h2
theorem wp_load_sl {x : Operand} (ho : o.op = .load 36 x) {p : Addr} {v : Value} (hc : w.cell? p = some v) (hx : a.eval x = .pointer (some p)) (hK : K (a.put o.dst v) w) : Oper.wp Try.prog o a w K Q := by
  refine wp_val v ?_ hK
  have hag : (isAgg 36).run Try.prog w = .ok false w := by simp [isAgg, run_underlying Try.underlying36]
  clear hK
  unfold execOp
  generalize a.eval = ρ at *
  simp [ho, hx, go_sem, hc, hag]
theorem wp_slice_tail {s lo : Operand} (ho : o.op = .slice 36 s (some lo) none none) {A : Option Addr} {n c : Nat} {L : List UInt8} (hs : a.eval s = .slice A n c) {B : Nat} (hsl : Sl w B 1 A n (L.map bv)) (hn : n = L.length) (p : Nat) (hh : a.eval lo = .int .i64 (p : Int)) (hd : p ≤ n) (hc : n ≤ c)
    (hK : ∀ A', Sl w B 1 A' (L.drop p).length ((L.drop p).map bv) → K (a.put o.dst (.slice A' (L.drop p).length (c - p))) w) : Oper.wp Try.prog o a w K Q := by
  obtain ⟨i0, hi0, hz0, hz1, hz2⟩ := info_parts infoB
  have hrun := run_slice_sl (P := Try.prog) w 36 5 i0 Try.underlying36 hi0 A n c (some (.int .i64 (p : Int))) none none p n c (.inr ⟨_, rfl⟩) (.inl ⟨rfl, rfl, rfl⟩) (.inl ⟨rfl, rfl⟩) hd hc (Nat.le_refl _)
  have hcut := hsl.cut (lo := p) (hi := n) (m := c) hd (Nat.le_refl _) hc
  have hle : (L.drop p).length = n - p := by rw [List.length_drop, hn]
  have hxs : ((L.map bv).drop (p * 1)).take ((n - p) * 1) = (L.drop p).map bv := by
    rw [Nat.mul_one, Nat.mul_one, ← List.map_drop, List.take_of_length_le (by rw [List.length_map]; omega)]
  rw [hxs, ← hle] at hcut
  rw [← hle, hz1] at hrun
  unfold Oper.wp execOp
  simp only [ho, hs, hh, Option.map_some, Option.map_none, hrun, Sem.run_bind, Sem.run_pure, Result.andThen_ok]
  exact hK _ hcut
end
/-- slices of bytes that come in, in a slice -/
def Rows2 (W : World) (A : Option Addr) (rows : List (List UInt8)) : Prop :=
  ∃ cells : List Value, Sl W W.heap.size 1 A rows.length cells ∧ ∀ (i : Nat) (L : List UInt8), rows[i]? = some L → ∃ Ai ci, cells[i]? = some (.slice Ai L.length ci) ∧ Sl W W.heap.size 1 Ai L.length (L.map bv) ∧ L.length ≤ ci ∧ ci ≤ maxLen
theorem sl_take {w : World} {B n d : Nat} {A : Option Addr} {L : List UInt8} (h : Sl w B 1 A n (L.map bv)) (hd : d ≤ n) : Sl w B 1 A d ((L.take d).map bv) := by
  have hl := h.1
  rw [List.length_map, Nat.mul_one] at hl
  refine ⟨by rw [List.length_map, List.length_take]; omega, fun h0 => ?_⟩
  obtain ⟨ad, e, hb, hc⟩ := h.2 (by omega)
  refine ⟨ad, e, hb, fun j u hj => hc j u ?_⟩
  rw [List.map_take, List.getElem?_take] at hj
  split at hj
  · exact hj
  · cases hj
/-- the state: the file's row, the blocks -/
structure WS (w0 w : World) (b8 : Nat) (A : Option Addr) (n c : Nat) (C : List UInt8) (B : Bls) : Prop where
  own : w.ownsRow w0.heap.size 5 1 (.slice A n c) n (C.map bv)
  blk : Blk w b8 (Value.slice A n c).ownBlock B
  bel : Below w0.heap.size w0 w
theorem WS.on {w0 w w' : World} {b8 n c : Nat} {A : Option Addr} {C : List UInt8} {B : Bls} (h : WS w0 w b8 A n c C B) (hb : Below w.heap.size w w') : WS w0 w' b8 A n c C B :=
  ⟨own_kept h.own hb, h.blk.on hb, h.bel.trans (hb.mono h.bel.size)⟩
theorem WS.room {w0 w : World} {b8 n c : Nat} {A : Option Addr} {C : List UInt8} {B : Bls} (h : WS w0 w b8 A n c C B) : n = C.length ∧ n ≤ c := by
  have h1 := h.own.1
  rw [List.length_map, Nat.mul_one] at h1
  obtain ⟨A', c', e, h2, _⟩ := Mine.form (.inr h.own)
  injection e with e1 e2 e3
  exact ⟨h1.symm, by omega⟩
theorem WS.sl {w0 w : World} {b8 n c : Nat} {A : Option Addr} {C : List UInt8} {B : Bls} (h : WS w0 w b8 A n c C B) : Sl w w.heap.size 1 A n (C.map bv) := Sl.own h.own
end Go.Proofs.Ytndfkpajojbfkaa.Ck
