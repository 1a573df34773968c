/-
  Words for memory, over any program: a slice value that reads as a list of cells ('Sl'); a slice value that the call may append to ('Mine'); the law of append on such a value; strings made of bytes.
-/
import Derived.WalkKit
import Derived.Lib.Hide
import Derived.Deep.AppendSrc
import Derived.Deep.Upon
import Derived.Deep.Draws
namespace Go.Proofs.Ytndfkpajojbfkaa.Wd
open Go.RowKit
set_option linter.unusedVariables false

theorem add_block (a : Addr) (n : Nat) : (a.add n).block = a.block := by unfold Addr.add; split <;> rfl
theorem add_add (a : Addr) (i j : Nat) : (a.add i).add j = a.add (i + j) := by
  unfold Addr.add
  by_cases hi : i = 0 <;> by_cases hj : j = 0 <;> simp [hi, hj, Nat.add_assoc]
theorem add_zero (a : Addr) : a.add 0 = a := by simp [Addr.add]

/-- the slice '.slice A n _' reads as the cells xs (size cells an element), in a block below B -/
def Sl (w : World) (B size : Nat) (A : Option Addr) (n : Nat) (xs : List Value) : Prop :=
  xs.length = n * size ∧ (0 < n → ∃ ad, A = some ad ∧ ad.block < B ∧ ∀ j u, xs[j]? = some u → w.cell? (ad.add j) = some u)

section
variable {w w' : World} {B B' size n : Nat} {A : Option Addr} {xs : List Value}
theorem Sl.nil (A : Option Addr) : Sl w B size A 0 [] := ⟨by simp, fun h => absurd h (by omega)⟩
theorem Sl.keep (h : Sl w B size A n xs) (hk : ∀ p : Addr, p.block < B → w'.cell? p = w.cell? p) : Sl w' B size A n xs :=
  ⟨h.1, fun hn => by
    obtain ⟨ad, e, hb, hc⟩ := h.2 hn
    exact ⟨ad, e, hb, fun j u hu => (hk _ (by rw [add_block]; exact hb)).trans (hc j u hu)⟩⟩
theorem Sl.more (h : Sl w B size A n xs) (hB : B ≤ B') : Sl w B' size A n xs :=
  ⟨h.1, fun hn => by
    obtain ⟨ad, e, hb, hc⟩ := h.2 hn
    exact ⟨ad, e, by omega, hc⟩⟩
theorem Sl.below (h : Sl w B size A n xs) (hb : Below B w w') : Sl w' B size A n xs := h.keep fun _ hp => hb.cell hp
/-- of what there is in w, behind a call that has turned nothing of it -/
theorem Sl.on (h : Sl w B size A n xs) (hB : B ≤ w.heap.size) (hb : Below w.heap.size w w') : Sl w' w'.heap.size size A n xs :=
  (h.keep fun _ hp => hb.cell (by omega)).more (Nat.le_trans hB hb.size)
theorem Sl.drew (h : Sl w B size A n xs) : Sl w.drew B size A n xs := h
theorem Sl.drewN (h : Sl w B size A n xs) (k : Nat) : Sl (w.drewN k) B size A n xs := h
theorem Sl.alloc (h : Sl w B size A n xs) (hB : B ≤ w.heap.size) (o : Obj) : Sl (w.alloc o) B size A n xs :=
  h.keep fun p hp => World.cell?_alloc_lt w o p (by omega)
theorem Sl.setCell (h : Sl w B size A n xs) {p : Addr} (hB : B ≤ p.block) (u : Value) : Sl (w.setCell p u) B size A n xs :=
  h.keep fun q hq => World.cell?_setCell_other w p q u (fun e => by subst e; omega)
theorem Sl.grown (h : Sl w B size A n xs) {row : Option Nat} (hg : w.grownBy w' row) (hB : B ≤ w.heap.size) (hr : ∀ g, row = some g → B ≤ g) : Sl w' B size A n xs :=
  h.keep fun p hp => World.cell?_of_block (hg.block p.block (by omega) (fun e => by have := hr _ e.symm; omega))
/-- the address and the cells, where there is an element -/
theorem Sl.at (h : Sl w B size A n xs) (hn : 0 < n) (hz : 0 < size) :
    ∃ b off, A = some ⟨b, off, none⟩ ∧ b < B ∧ ∀ j u, xs[j]? = some u → w.cell? ⟨b, off + j, none⟩ = some u := by
  obtain ⟨ad, rfl, hb, hc⟩ := h.2 hn
  have hl : 0 < xs.length := by rw [h.1]; exact Nat.mul_pos hn hz
  have h0 := hc 0 _ (List.getElem?_eq_getElem hl)
  rw [add_zero] at h0
  obtain ⟨b, off, spot⟩ := ad
  obtain rfl : spot = none := by simpa using World.cell?_spot h0
  refine ⟨b, off, rfl, hb, fun j u hu => ?_⟩
  have := hc j u hu
  rwa [Addr.add_lit] at this
theorem Sl.cut (h : Sl w B size A n xs) {lo hi m : Nat} (h1 : lo ≤ hi) (h2 : hi ≤ n) (hm : hi ≤ m) :
    Sl w B size (if m = lo then A else A.map (·.add (lo * size))) (hi - lo) ((xs.drop (lo * size)).take ((hi - lo) * size)) := by
  refine ⟨?_, fun hn => ?_⟩
  · rw [List.length_take, List.length_drop, h.1, ← Nat.sub_mul]
    exact Nat.min_eq_left (Nat.mul_le_mul_right _ (by omega))
  · obtain ⟨ad, rfl, hb, hcell⟩ := h.2 (by omega)
    rw [if_neg (by omega)]
    refine ⟨ad.add (lo * size), rfl, by rw [add_block]; exact hb, fun j u hu => ?_⟩
    rw [add_add]
    refine hcell _ u ?_
    rw [List.getElem?_take] at hu
    split at hu
    · rw [List.getElem?_drop] at hu; exact hu
    · cases hu
theorem Sl.own {base : Nat} {e : TypeId} {c : Nat} (h : w.ownsRow base e size (.slice A n c) n xs) : Sl w w.heap.size size A n xs := by
  refine ⟨h.1, fun hn => ?_⟩
  rcases h.2 with ⟨_, h0⟩ | ⟨g, cap, cur, hv, _, hg, _⟩
  · omega
  · have hA : A = some ⟨g, 0, none⟩ := by injection hv
    subst hA
    exact ⟨_, rfl, (Array.getElem?_eq_some_iff.1 hg).1, h.cells (g := g) rfl⟩
end

theorem own_form {w : World} {base size n c : Nat} {e : TypeId} {A : Option Addr} {xs : List Value} (h : w.ownsRow base e size (.slice A n c) n xs) (hn : 0 < n) : ∃ g, A = some ⟨g, 0, none⟩ ∧ base ≤ g ∧ g < w.heap.size ∧ n ≤ c ∧ c ≤ maxLen := by
  rcases h.2 with ⟨_, h0⟩ | ⟨g, cap, cur, hv, hb, hg, hc, hm, _⟩
  · omega
  · injection hv with hA _ hcc
    subst hcc
    exact ⟨g, hA, hb, (Array.getElem?_eq_some_iff.1 hg).1, hc, hm⟩

theorem Sl.newRow (w : World) (cs : List Value) (t : TypeId) (n : Nat) (hn : n = cs.length) : Sl (w.alloc (.cells cs.toArray t)) (w.alloc (.cells cs.toArray t)).heap.size 1 (some ⟨w.heap.size, 0, none⟩) n cs := by
  refine ⟨by omega, fun _ => ⟨_, rfl, by simp, fun j u hu => ?_⟩⟩
  rw [Addr.add_lit, cell_of_row _ _ _ cs.toArray t (0, 0) (heap_alloc_new w _), Nat.zero_add]
  simpa using hu

/-- a slice value that the call may append to: it has no room (then nothing that is there is written), or its row is the call's own -/
def Mine (w : World) (base : Nat) (e : TypeId) (size : Nat) (v : Value) (n : Nat) (xs : List Value) : Prop :=
  (∃ A, v = .slice A n n ∧ n ≤ maxLen ∧ (A = none → n = 0) ∧ Sl w w.heap.size size A n xs) ∨ w.ownsRow base e size v n xs

section
variable {w w' : World} {base size n : Nat} {e : TypeId} {v : Value} {xs : List Value}
theorem Mine.nil : Mine w base e size (.slice none 0 0) 0 [] := .inr (World.ownsRow_nil _ _ _ _)
theorem Mine.full {A : Option Addr} (h : Sl w w.heap.size size A n xs) (hn : n ≤ maxLen) : Mine w base e size (.slice A n n) n xs :=
  .inl ⟨A, rfl, hn, (fun hA => by
    rcases Nat.eq_zero_or_pos n with h0 | h0
    · exact h0
    · obtain ⟨ad, e, _⟩ := h.2 h0
      rw [hA] at e
      cases e), h⟩
theorem Mine.form (h : Mine w base e size v n xs) : ∃ A c, v = .slice A n c ∧ n ≤ c ∧ c ≤ maxLen ∧ Sl w w.heap.size size A n xs := by
  rcases h with ⟨A, rfl, hn, _, hs⟩ | h
  · exact ⟨A, n, rfl, Nat.le_refl _, hn, hs⟩
  · rcases h.2 with ⟨rfl, rfl⟩ | ⟨g, cap, cur, rfl, _, _, hc, hm, _⟩
    · exact ⟨none, 0, rfl, Nat.le_refl _, by simp, Sl.own h⟩
    · exact ⟨_, cap, rfl, hc, hm, Sl.own h⟩
theorem Mine.len (h : Mine w base e size v n xs) : xs.length = n * size := by
  rcases h with ⟨A, _, _, _, hs⟩ | h
  · exact hs.1
  · exact h.1
theorem Mine.keep (h : Mine w base e size v n xs) (hs : w.heap.size ≤ w'.heap.size) (hk : ∀ k, k < w.heap.size → w'.heap[k]? = w.heap[k]?) : Mine w' base e size v n xs := by
  rcases h with ⟨A, rfl, hn, hA, h⟩ | h
  · exact .inl ⟨A, rfl, hn, hA, (h.keep fun p hp => World.cell?_of_block (hk p.block hp)).more hs⟩
  · refine .inr ⟨h.1, ?_⟩
    rcases h.2 with hn | ⟨g, cap, cur, rfl, hb, hgg, rest⟩
    · exact .inl hn
    · exact .inr ⟨g, cap, cur, rfl, hb, (hk g (Array.getElem?_eq_some_iff.1 hgg).1).trans hgg, rest⟩
theorem Mine.lower {base' : Nat} (h : Mine w base e size v n xs) (hb : base' ≤ base) : Mine w base' e size v n xs := by
  rcases h with h | h
  · exact .inl h
  · refine .inr ⟨h.1, ?_⟩
    rcases h.2 with hn | ⟨g, cap, cur, hv, hg, rest⟩
    · exact .inl hn
    · exact .inr ⟨g, cap, cur, hv, by omega, rest⟩
theorem Mine.alloc (h : Mine w base e size v n xs) (o : Obj) : Mine (w.alloc o) base e size v n xs :=
  h.keep (by simp) fun k hk => Below.heap_alloc w o k hk
theorem Mine.drew (h : Mine w base e size v n xs) : Mine w.drew base e size v n xs := h
theorem Mine.on (h : Mine w base e size v n xs) (hb : Below w.heap.size w w') : Mine w' base e size v n xs := h.keep hb.size hb.block
end

section
variable {P : Program}

theorem wpList_wanted {ops : Array Oper} {Q : Exit → Act → World → Prop} {a : Act} {w : World} {rest : List Oper} {o : Oper} (hw : Region.wanted o (yielded ops a.tmps) = true)
    (h : ∀ K : Act → World → Prop, (∀ a w, wpList P ops Q rest a w → K a w) → o.wp P a w K Q) : wpList P ops Q (o :: rest) a w :=
  wpList_step fun K hK => by rw [if_pos hw]; exact h K hK

/-- an operation that only reckons: its run is known -/
theorem wpList_val {ops : Array Oper} {Q : Exit → Act → World → Prop} {a : Act} {w : World} {rest : List Oper} {o : Oper} (hw : Region.wanted o (yielded ops a.tmps) = true) (v : Value) (w' : World)
    (hr : (execOp a.eval o).run P w = .ok (.value v) w') (hK : wpList P ops Q rest (a.put o.dst v) w') : wpList P ops Q (o :: rest) a w :=
  wpList_wanted hw fun K hK' => by
    unfold Oper.wp
    rw [hr]
    exact hK' _ _ hK
/-- an operation without a value (a store): its run is known -/
theorem wpList_skipped {ops : Array Oper} {Q : Exit → Act → World → Prop} {a : Act} {w : World} {rest : List Oper} {o : Oper} (hw : Region.wanted o (yielded ops a.tmps) = true) (w' : World)
    (hr : (execOp a.eval o).run P w = .ok .skip w') (hK : wpList P ops Q rest (a.put o.dst undef) w') : wpList P ops Q (o :: rest) a w :=
  wpList_wanted hw fun K hK' => by
    unfold Oper.wp
    rw [hr]
    exact hK' _ _ hK

/-- what an append brings: m elements, the cells news -/
structure Gives (P : Program) (w : World) (t tx ty : TypeId) (e : TypeId) (i : TypeInfo) (z x : Value) (m : Nat) (news : List Value) : Prop where
  len : news.length = m * i.size
  one : ∀ u ∈ news, u.oneCell' = true
  room : ∀ (A : Option Addr) (n c : Nat), n + m ≤ c → (Builtin.append_ #[t, tx] ty #[.slice A n c, x]).run P w =
    ((match A with | some a => storeCells (a.add (n * i.size)) news | none => pure ()).run P w).andThen fun _ w' => .ok (.slice A (n + m) c) w'
  grow : ∀ (A : Option Addr) (n c : Nat) (olds : List Value), (Builtin.firstCells i.size n (.slice A n c)).run P w.drew = .ok olds.toArray w.drew → c < n + m → ((n + m : Nat) : Int) ≤ 9223372036854775807 →
    Builtin.nextslicecap (n + m) c * i.bytes ≤ 281474976710656 →
    (Builtin.append_ #[t, tx] ty #[.slice A n c, x]).run P w = .ok (.slice (some ⟨w.heap.size, 0, none⟩) (n + m) (grownCap w (n + m) c e))
        (w.drew.alloc (.cells ((olds ++ news).toArray ++ Builtin.zeroCells z.cells (grownCap w (n + m) c e - (n + m))) e))

theorem Gives.src {w : World} {t tx ty e : TypeId} {i : TypeInfo} {z x : Value} {m : Nat} {news : List Value} (ht : P.underlying t = some (.slice e)) (hi : P.info? e = some i) (hz : i.zero = some z)
    (hs : Src P i.size tx x m news w) : Gives P w t tx ty e i z x m news where
  len := hs.newsLen
  one := hs.one
  room := fun A n c hroom => by
    rcases hs.kind with ⟨e', hk⟩ | hk <;> cases A <;> simp [Builtin.append_, run_underlying ht, run_underlying hk, sizeOf, typeInfo, hi, hs.len, hroom, hs.cells]
  grow := fun A n c olds hold hc h63 hfit => run_append_grow_src w t tx ty e i z ht hi hz A n c olds hold x m news hs hc h63 hfit

theorem zeroCells_one (u : Value) (m : Nat) : (Builtin.zeroCells #[u] m).toList = List.replicate m u := by
  apply List.ext_getElem
  · simp [Builtin.zeroCells]
  · intro j h1 h2
    simp [Builtin.zeroCells, Nat.mod_one]

/-- 'append(s, make([]T, m)...)', an element of one cell -/
theorem Gives.zeros {w : World} {t tx ty e : TypeId} {i : TypeInfo} {z : Value} (m : Nat) {Z : Int} (hZ : Z = (m : Int)) (k : IntKind) (ht : P.underlying t = some (.slice e)) (htx : P.underlying tx = some (.int k)) (hi : P.info? e = some i) (hz : i.zero = some z)
    (h1 : z.cells = #[z]) (h1' : z.oneCell' = true) (hsz : i.size = 1) (hm : m ≤ 4611686018427387904) (hby : m * i.bytes ≤ 281474976710656) : Gives P w t tx ty e i z (.int .i64 Z) m (List.replicate m z) := by
  subst hZ
  have hw : IntKind.i64.wrap (m : Int) = m := by rw [IntKind.wrap_i64]; omega
  have hneg : ¬ ((m : Int) < 0) := by omega
  have h48i : ¬ (281474976710656 < (m : Int) * (i.bytes : Int)) := by
    rw [← Int.natCast_mul]
    omega
  have hzc := zeroCells_one z m
  have hza : Builtin.zeroCells #[z] m = (List.replicate m z).toArray := by rw [← hzc, Array.toArray_toList]
  refine ⟨by simp [hsz], fun u hu => by rw [List.eq_of_mem_replicate hu]; exact h1', fun A n c hroom => ?_, fun A n c olds hold hc h63 hfit => ?_⟩
  · rcases Nat.eq_zero_or_pos m with h0 | h0
    · subst h0
      have hw0 : IntKind.i64.wrap 0 = 0 := by decide
      cases A <;> simp [Builtin.append_, run_underlying ht, run_underlying htx, sizeOf, typeInfo, hi, hsz, asInt, asIntOf, hw0, show n ≤ c from hroom, storeCells]
    · have hm0 : m ≠ 0 := by omega
      cases A <;> simp [Builtin.append_, run_underlying ht, run_underlying htx, sizeOf, typeInfo, zeroValue, hi, hz, hsz, h1, asInt, asIntOf, hw, hneg, h48i, hroom, hm0, hza]
  · have hn : ¬ (n + m ≤ c) := by omega
    have h63' : ¬ (9223372036854775807 < ((n : Int) + (m : Int))) := by omega
    have h48' : ¬ (281474976710656 < Builtin.nextslicecap (n + m) c * i.bytes) := by omega
    rcases Nat.eq_zero_or_pos m with h0 | h0
    · subst h0
      have hw0 : IntKind.i64.wrap 0 = 0 := by decide
      have hn0 : ¬ (n ≤ c) := by omega
      have h63'' : ¬ (9223372036854775807 < (n : Int)) := by omega
      have h48'' : ¬ (281474976710656 < Builtin.nextslicecap n c * i.bytes) := by simpa using h48'
      rw [hsz] at hold
      simp [Builtin.append_, run_underlying ht, run_underlying htx, sizeOf, typeInfo, zeroValue, hi, hz, hsz, h1, asInt, asIntOf, hw0, hn0, h63'', h48'', Question.forced, hold, newRow, grownCap]
    · have hm0 : m ≠ 0 := by omega
      rw [hsz] at hold
      simp [Builtin.append_, run_underlying ht, run_underlying htx, sizeOf, typeInfo, zeroValue, hi, hz, hsz, h1, asInt, asIntOf, hw, hneg, h48i, hn, hm0, h63', h48', Question.forced, hold, hza, newRow, grownCap]
      congr 2
      apply Array.ext'
      simp

/-- append onto such a value, from whatever source -/
theorem run_append_mine (w : World) (base : Nat) (t tx ty e : TypeId) (i : TypeInfo) (z : Value) (size bytes : Nat)
    (hsize : i.size = size) (hby : i.bytes = bytes) (hzs : z.cells.size = size) (hsz : 0 < size)
    (v : Value) (n : Nat) (xs : List Value) (h : Mine w base e size v n xs) (x : Value) (m : Nat) (news : List Value) (hs : Gives P w t tx ty e i z x m news)
    (h63 : n + m ≤ maxLen) (hbytes : (n + m) * bytes ≤ 140737488355328) (hbase : base ≤ w.heap.size) :
    ∃ v' w', (Builtin.append_ #[t, tx] ty #[v, x]).run P w = .ok v' w' ∧ Mine w' base e size v' (n + m) (xs ++ news) ∧ w.grownBy w' v.ownBlock ∧ Below base w w' ∧
      (v'.ownBlock = v.ownBlock ∨ v'.ownBlock = some w.heap.size) ∧ (0 < m ∨ w.ownsRow base e size v n xs → w'.ownsRow base e size v' (n + m) (xs ++ news)) := by
  subst hsize
  subst hby
  have hsmall : n + m ≤ 9223372036854775807 := by simp only [maxLen] at h63; omega
  have hxl := h.len
  have hlen : (xs ++ news).length = (n + m) * i.size := by rw [List.length_append, hxl, hs.len, Nat.add_mul]
  obtain ⟨A, c, rfl, hnc, hcm, hsl⟩ := h.form
  rcases Nat.eq_zero_or_pos m with h0 | h0
  · subst h0
    have hn : news = [] := List.eq_nil_of_length_eq_zero (by simpa using hs.len)
    subst hn
    refine ⟨.slice A n c, w, ?_, by simpa using h, World.grownBy.refl w _, Below.refl _ _, .inl rfl, fun h => ?_⟩
    · rw [hs.room A n c (by omega)]
      cases A <;> simp [storeCells, Result.andThen]
    · rcases h with h | h
      · omega
      · simpa using h
  · -- a new row
    have grow : c < n + m → ∃ v' w', (Builtin.append_ #[t, tx] ty #[.slice A n c, x]).run P w = .ok v' w' ∧ w'.ownsRow base e i.size v' (n + m) (xs ++ news) ∧ (∀ row, w.grownBy w' row) ∧ Below base w w' ∧ v'.ownBlock = some w.heap.size := by
      intro hc
      have hold : (Builtin.firstCells i.size n (.slice A n c)).run P w.drew = .ok xs.toArray w.drew := by
        cases A with
        | none =>
          have hn0 : n = 0 := by
            rcases Nat.eq_zero_or_pos n with h0 | h0
            · exact h0
            · obtain ⟨ad, e', _⟩ := hsl.2 h0
              cases e'
          subst hn0
          have hx0 : xs = [] := List.eq_nil_of_length_eq_zero (by simpa using hxl)
          subst hx0
          exact run_firstCells_none w.drew i.size 0 0 c
        | some ad =>
          refine run_firstCells_some w.drew i.size n ad n c xs hxl fun j u hu => ?_
          rcases Nat.eq_zero_or_pos n with h0 | h0
          · subst h0
            have hx0 : xs = [] := List.eq_nil_of_length_eq_zero (by simpa using hxl)
            subst hx0
            simp at hu
          · obtain ⟨ad', e', _, hc'⟩ := hsl.2 h0
            injection e' with e'
            subst e'
            exact hc' j u hu
      have hr := hs.grow A n c xs hold hc (by omega) (growslice_fits hc hbytes)
      have hge := grownCap_ge w (n + m) c e
      have hcm' : grownCap w (n + m) c e ≤ maxLen := grownCap_le_maxLen w (n + m) c e h63
      refine ⟨_, _, hr, ⟨hlen, .inr ⟨w.heap.size, _, _, rfl, hbase, heap_alloc_new w.drew _, hge, hcm', ?_, ?_⟩⟩, fun row => ⟨rfl, rfl, rfl, by simp, fun k hk _ => (Below.heap_alloc w.drew _ k hk).trans rfl⟩, ?_, rfl⟩
      · simp only [Array.size_append, List.size_toArray, size_zeroCells, hzs, hlen, ← Nat.add_mul]
        congr 1
        omega
      · simp only [Array.toList_append]
        rw [← hlen]
        exact List.take_left
      · exact ((Below.refl base w).drew).alloc hbase _
    by_cases hroom : n + m ≤ c
    · rcases h with ⟨A', hA', _, _, _⟩ | h
      · injection hA' with _ _ hc
        omega
      · rcases h.2 with ⟨hv, _⟩ | ⟨g, cap, cur, hv, hg, hh, hnc', hcapm, hsz', htake⟩
        · injection hv with _ _ hc
          omega
        · injection hv with hA hn hc
          subst hA; subst hc
          have hf : n * i.size + 0 + news.length ≤ cur.size := by
            rw [hs.len, hsz', Nat.add_zero, ← Nat.add_mul]; exact Nat.mul_le_mul_right _ hroom
          have hst := run_storeCells_at P g (n * i.size) e news 0 cur w hh hf hs.one
          simp only [Nat.add_zero] at hst
          have hrun : (Builtin.append_ #[t, tx] ty #[.slice (some ⟨g, 0, none⟩) n c, x]).run P w = .ok (.slice (some ⟨g, 0, none⟩) (n + m) c) (w.setRow g (cur.toList.take (n * i.size) ++ news ++ cur.toList.drop (n * i.size + news.length)).toArray) := by
            rw [hs.room _ n c hroom]
            simp only [Addr.add_lit, Nat.zero_add, hst, Result.andThen]
          have hcl : cur.toList.length = c * i.size := by rw [Array.length_toList, hsz']
          have hnl : n * i.size ≤ cur.toList.length := by rw [hcl]; exact Nat.mul_le_mul_right _ hnc
          have htk : (cur.toList.take (n * i.size)).length = n * i.size := by rw [List.length_take]; omega
          have hown : (w.setRow g (cur.toList.take (n * i.size) ++ news ++ cur.toList.drop (n * i.size + news.length)).toArray).ownsRow base e i.size (.slice (some ⟨g, 0, none⟩) (n + m) c) (n + m) (xs ++ news) := by
            refine ⟨hlen, .inr ⟨g, c, _, rfl, hg, setRow_heap w g cur _ e (0, 0) hh, hroom, hcapm, ?_, ?_⟩⟩
            · rw [List.size_toArray, List.length_append, List.length_append, htk, List.length_drop, hcl]
              rw [hsz'] at hf
              omega
            · show List.take ((n + m) * i.size) (cur.toList.take (n * i.size) ++ news ++ cur.toList.drop (n * i.size + news.length)) = xs ++ news
              rw [htake, ← hlen]
              exact List.take_left
          refine ⟨_, _, hrun, .inr hown, ⟨rfl, rfl, rfl, by simp, fun k hk hne => setRow_other w g k _ (fun e => hne (by rw [e]; rfl))⟩, ?_, .inl rfl, fun _ => hown⟩
          exact ⟨rfl, rfl, rfl, by simp, fun k hk => setRow_other w g k _ (by omega)⟩
    · obtain ⟨v', w', hr, ho, hg, hb, hat⟩ := grow (by omega)
      exact ⟨v', w', hr, .inr ho, hg _, hb, .inr hat, fun _ => ho⟩

/-- at the list of a plain region's operations -/
theorem wpList_append_mine {w : World} {ops : Array Oper} {rest : List Oper} {o : Oper} {a : Act} {Q : Exit → Act → World → Prop} (hgd : Region.wanted o (yielded ops a.tmps) = true) (s x : Operand) (t tx : TypeId)
    (ho : o.op = .call { callee := .builtin .append, args := #[s, x], argTypes := #[t, tx] })
    (base : Nat) (e : TypeId) (i : TypeInfo) (z : Value) (size bytes : Nat)
    (hsize : i.size = size) (hby : i.bytes = bytes) (hzs : z.cells.size = size) (hsz : 0 < size)
    (v : Value) (n : Nat) (xs : List Value) (hv : a.eval s = v) (h : Mine w base e size v n xs) (y : Value) (m : Nat) (news : List Value) (hx : a.eval x = y) (hs : Gives P w t tx o.type e i z y m news)
    (h63 : n + m ≤ maxLen) (hbytes : (n + m) * bytes ≤ 140737488355328) (hbase : base ≤ w.heap.size)
    (hK : ∀ A' c' w', Mine w' base e size (.slice A' (n + m) c') (n + m) (xs ++ news) → w.grownBy w' v.ownBlock → Below base w w' →
      ((Value.slice A' (n + m) c').ownBlock = v.ownBlock ∨ (Value.slice A' (n + m) c').ownBlock = some w.heap.size) → (0 < m ∨ w.ownsRow base e size v n xs → w'.ownsRow base e size (.slice A' (n + m) c') (n + m) (xs ++ news)) →
      wpList P ops Q rest (a.put o.dst (.slice A' (n + m) c')) w') : wpList P ops Q (o :: rest) a w := by
  refine wpList_wanted hgd fun K hK' => ?_
  obtain ⟨v', w', hr, h1, h2, h3, h4, h5⟩ := run_append_mine (P := P) w base t tx o.type e i z size bytes hsize hby hzs hsz v n xs h y m news hs h63 hbytes hbase
  obtain ⟨A', c', rfl, _⟩ := h1.form
  unfold Oper.wp execOp
  simp only [ho, resolve, invoke, builtin, Sem.run_bind, Sem.run_pure, Result.andThen_ok, List.map_toArray, List.map_cons, List.map_nil, hv, hx, hr]
  exact hK' _ _ (hK A' c' w' h1 h2 h3 h4 h5)

/-- a source that reads as a list -/
theorem srcSl {w : World} {size B : Nat} {tx e' : TypeId} (hk : P.underlying tx = some (.slice e')) {A : Option Addr} {n c : Nat} {news : List Value} (h : Sl w B size A n news)
    (h1 : ∀ u ∈ news, u.oneCell' = true) : Src P size tx (.slice A n c) n news w := by
  cases A with
  | none =>
    have hn0 : n = 0 := by
      rcases Nat.eq_zero_or_pos n with h0 | h0
      · exact h0
      · obtain ⟨ad, e', _⟩ := h.2 h0
        cases e'
    subst hn0
    have hx0 : news = [] := List.eq_nil_of_length_eq_zero (by simpa using h.1)
    subst hx0
    exact Src.ofNil w hk c
  | some ad =>
    refine Src.ofSlice w hk ad n c news h.1 (fun j u hu => ?_) h1
    rcases Nat.eq_zero_or_pos n with h0 | h0
    · subst h0
      have hx0 : news = [] := List.eq_nil_of_length_eq_zero (by simpa using h.1)
      subst hx0
      simp at hu
    · obtain ⟨ad', e', _, hc'⟩ := h.2 h0
      injection e' with e'
      subst e'
      exact hc' j u hu

/-- one element, laid in a block of its own ahead of the append -/
theorem srcOne (w : World) {tx e' et : TypeId} (hk : P.underlying tx = some (.slice e')) (u : Value) (h1 : u.oneCell' = true) (c : Nat) :
    Src P 1 tx (.slice (some ⟨w.heap.size, 0, none⟩) 1 c) 1 [u] (w.alloc (.cells #[u] et)) :=
  Src.ofSlice _ hk _ 1 c [u] rfl (fun j v hj => by
    match j, hj with
    | 0, hj =>
      simp at hj
      subst hj
      rw [add_zero, cell_of_row _ _ 0 _ et (0, 0) (heap_alloc_new w _)]
      rfl) (fun v hv => by simp at hv; subst hv; exact h1)

/-- one element of one cell: 'append(s, x)' -/
theorem Gives.elem {w : World} {t ty e : TypeId} {i : TypeInfo} {z : Value} {et : TypeId} (ht : P.underlying t = some (.slice e)) (hi : P.info? e = some i) (hz : i.zero = some z) (hsz : i.size = 1)
    (u : Value) (h1 : u.oneCell' = true) : Gives P (w.alloc (.cells #[u] et)) t t ty e i z (.slice (some ⟨w.heap.size, 0, none⟩) 1 1) 1 [u] :=
  Gives.src ht hi hz (by rw [hsz]; exact srcOne w ht u h1 1)

/-- a slice's elements: 'append(s, x...)' -/
theorem Gives.slice {w : World} {t ty e : TypeId} {i : TypeInfo} {z : Value} (ht : P.underlying t = some (.slice e)) (hi : P.info? e = some i) (hz : i.zero = some z)
    {B : Nat} {A : Option Addr} {n c : Nat} {news : List Value} (h : Sl w B i.size A n news) (h1 : ∀ u ∈ news, u.oneCell' = true) : Gives P w t t ty e i z (.slice A n c) n news :=
  Gives.src ht hi hz (srcSl ht h h1)

/-- a string's bytes: 'append(b, s...)' -/
theorem Gives.string {w : World} {t tx ty e : TypeId} {i : TypeInfo} {z : Value} (ht : P.underlying t = some (.slice e)) (hx : P.underlying tx = some .string) (hi : P.info? e = some i) (hz : i.zero = some z) (hsz : i.size = 1)
    (s : ByteArray) : Gives P w t tx ty e i z (.string s) s.size (byteCells s) :=
  Gives.src ht hi hz (by rw [hsz]; exact Src.ofString w hx s)

/-- 's[lo:hi]', 's[lo:hi:max]': the operands' values as numbers -/
theorem run_slice_sl (w : World) (t e : TypeId) (i : TypeInfo) (ht : P.underlying t = some (.slice e)) (hi : P.info? e = some i) (A : Option Addr) (n c : Nat) (l h m : Option Value) (lo up mx : Nat)
    (hl : (l = none ∧ lo = 0) ∨ ∃ k, l = some (.int k (lo : Int))) (hh : (h = none ∧ m = none ∧ up = n) ∨ ∃ k, h = some (.int k (up : Int)))
    (hm : (m = none ∧ mx = c) ∨ ∃ k, m = some (.int k (mx : Int))) (h1 : lo ≤ up) (h2 : up ≤ mx) (h3 : mx ≤ c) :
    (Instr.sliceAt t (.slice A n c) l h m).run P w = .ok (.slice (if mx = lo then A else A.map (·.add (lo * i.size))) (up - lo) (mx - lo)) w := by
  have hsa : P.underlying t = some (.slice (P.elem t)) := by rw [ht]; simp [Program.elem, ht]
  have he : P.elem t = e := by simp [Program.elem, ht]
  rw [run_sliceAt_slice w t _ _ _ _ hsa, run_slice_any w t A n c hsa]
  have hb : (Instr.sliceBounds true n c l h m).run P w = .ok (lo, up, mx) w := by
    have hc2 : up ≤ c := by omega
    rcases hl with ⟨rfl, rfl⟩ | ⟨kl, rfl⟩ <;> rcases hh with ⟨rfl, hm', rfl⟩ | ⟨kh, rfl⟩ <;> rcases hm with ⟨rfl, rfl⟩ | ⟨km, rfl⟩ <;>
      first
        | (simp [Instr.sliceBounds, run_sliceBound_if, h1, h2, h3]; done)
        | (cases hm'; done)
        | (simp [Instr.sliceBounds, run_sliceBound_if, h1, h2, h3, hc2] <;> omega)
  rw [hb]
  simp [Result.andThen, sizeOf, typeInfo, he, hi, sliced]

end

section
variable {P : Program}
/-- 's[l:l+d]' (room cd), at the list of a plain region's operations: the new value's address is a letter -/
theorem wpList_slice_sl {w : World} {ops : Array Oper} {rest : List Oper} {o : Oper} {a : Act} {Q : Exit → Act → World → Prop} (hgd : Region.wanted o (yielded ops a.tmps) = true) (t : TypeId) (s : Operand) (lo up mx : Option Operand)
    (ho : o.op = .slice t s lo up mx) (e : TypeId) (i : TypeInfo) (size : Nat) (ht : P.underlying t = some (.slice e)) (hi : P.info? e = some i) (hsize : i.size = size)
    (A : Option Addr) (n c : Nat) (hs : a.eval s = .slice A n c) (l d cd : Nat)
    (hl : (lo.map a.eval = none ∧ l = 0) ∨ ∃ k z, lo.map a.eval = some (.int k z) ∧ z = (l : Int)) (hu : (up.map a.eval = none ∧ mx.map a.eval = none ∧ l + d = n) ∨ ∃ k z, up.map a.eval = some (.int k z) ∧ z = ((l + d : Nat) : Int))
    (hm : (mx.map a.eval = none ∧ l + cd = c) ∨ ∃ k z, mx.map a.eval = some (.int k z) ∧ z = ((l + cd : Nat) : Int)) (h1 : d ≤ cd) (h2 : l + d ≤ n) (h3 : l + cd ≤ c) {B : Nat} {xs : List Value} (hr : Sl w B size A n xs)
    (hK : ∀ A', Sl w B size A' d ((xs.drop (l * size)).take (d * size)) → wpList P ops Q rest (a.put o.dst (.slice A' d cd)) w) : wpList P ops Q (o :: rest) a w := by
  subst hsize
  refine wpList_wanted hgd fun K hK' => ?_
  have hrun := run_slice_sl (P := P) w t e i ht hi A n c (lo.map a.eval) (up.map a.eval) (mx.map a.eval) l (l + d) (l + cd)
    (hl.imp id (fun ⟨k, z, h, hz⟩ => ⟨k, by rw [h, hz]⟩)) (hu.imp id (fun ⟨k, z, h, hz⟩ => ⟨k, by rw [h, hz]⟩)) (hm.imp (fun h => ⟨h.1, h.2⟩) (fun ⟨k, z, h, hz⟩ => ⟨k, by rw [h, hz]⟩)) (by omega) (by omega) h3
  have hsl := hr.cut (lo := l) (hi := l + d) (m := l + cd) (by omega) h2 (by omega)
  rw [Nat.add_sub_cancel_left] at hsl
  rw [Nat.add_sub_cancel_left, Nat.add_sub_cancel_left] at hrun
  unfold Oper.wp execOp
  simp only [ho, hs, hrun, Sem.run_bind, Sem.run_pure, Result.andThen_ok]
  exact hK' _ _ (hK _ hsl)
end

/-! ### bytes -/
def bv (b : UInt8) : Value := .int .u8 (b.toNat : Int)
theorem bv_one : ∀ l : List UInt8, ∀ u ∈ l.map bv, u.oneCell' = true := fun l u hu => by
  obtain ⟨_, _, rfl⟩ := List.mem_map.1 hu
  rfl
theorem bv_at (l : List UInt8) (j : Nat) (h : j < l.length) : (l.map bv)[j]? = some (bv l[j]) := by
  rw [List.getElem?_map, List.getElem?_eq_getElem h]; rfl
theorem bv_of (x : Int) (h0 : 0 ≤ x) (h1 : x < 256) : bv (UInt8.ofNat x.toNat) = .int .u8 x := by
  have : (UInt8.ofNat x.toNat).toNat = x.toNat := by rw [UInt8.toNat_ofNat']; exact Nat.mod_eq_of_lt (by omega)
  unfold bv
  rw [this, Int.toNat_of_nonneg h0]
def str (l : List UInt8) : ByteArray := ⟨l.toArray⟩
@[simp] theorem str_toList (l : List UInt8) : (str l).toList = l := by
  rw [ByteArray.toList_eq]
  rfl
theorem toList_data (s : ByteArray) : s.toList = s.data.toList := ByteArray.toList_eq s
@[simp] theorem str_append (a b : List UInt8) : str a ++ str b = str (a ++ b) := by
  apply ByteArray.ext
  simp [str]
@[simp] theorem str_size (l : List UInt8) : (str l).size = l.length := by simp [str, ByteArray.size]
theorem str_of (s : ByteArray) : str s.data.toList = s := by cases s; simp [str]
theorem str_inj {a b : List UInt8} : str a = str b ↔ a = b := by
  constructor
  · intro h
    have := congrArg (fun s : ByteArray => s.data.toList) h
    simpa [str] using this
  · rintro rfl; rfl
theorem byteCells_bv (s : ByteArray) : byteCells s = s.data.toList.map bv := rfl

theorem run_convert_sl {P : Program} (w : World) (src dst e : TypeId) (hs : P.underlying src = some (.slice e)) (he : P.underlying e = some (.int .u8)) (hd : P.underlying dst = some .string)
    {B : Nat} {A : Option Addr} {n c : Nat} {l : List UInt8} (hn : n = l.length) (h : Sl w B 1 A n (l.map bv)) : (convert src dst (.slice A n c)).run P w = .ok (.string (str l)) w := by
  subst hn
  cases A with
  | none =>
    have hn0 : l.length = 0 := by
      rcases Nat.eq_zero_or_pos l.length with h0 | h0
      · exact h0
      · obtain ⟨ad, e', _⟩ := h.2 h0
        cases e'
    have : l = [] := List.eq_nil_of_length_eq_zero hn0
    subst this
    exact run_convert_bytes_nil w src e hs he _ _ dst hd
  | some ad =>
    refine run_convert_bytes_back w src dst e ad c l hs he hd fun j hj => ?_
    obtain ⟨ad', e', _, hc⟩ := h.2 (by omega)
    injection e' with e'
    subst e'
    exact hc j _ (bv_at l j hj)

/-- 'string(b)', at the list of a plain region's operations -/
theorem wpList_convert_sl {P : Program} {w : World} {ops : Array Oper} {rest : List Oper} {o : Oper} {a : Act} {Q : Exit → Act → World → Prop} (hgd : Region.wanted o (yielded ops a.tmps) = true) (src dst e : TypeId) (x : Operand)
    (ho : o.op = .convert src dst x) (hs : P.underlying src = some (.slice e)) (he : P.underlying e = some (.int .u8)) (hd : P.underlying dst = some .string)
    (A : Option Addr) (n c : Nat) (l : List UInt8) (hx : a.eval x = .slice A n c) {B : Nat} {xs : List Value} (h : Sl w B 1 A n xs) (hxs : xs = l.map bv)
    (hK : wpList P ops Q rest (a.put o.dst (.string (str l))) w) : wpList P ops Q (o :: rest) a w := by
  subst hxs
  refine wpList_wanted hgd fun K hK' => ?_
  have hrun := run_convert_sl (P := P) w src dst e hs he hd (c := c) (by have := h.1; simpa using this.symm) h
  unfold Oper.wp execOp
  simp only [ho, hx, hrun, Sem.run_bind, Sem.run_pure, Result.andThen_ok]
  exact hK' _ _ hK

end Go.Proofs.Ytndfkpajojbfkaa.Wd
