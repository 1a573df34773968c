/-
  Bytes in a row of the call's own: make, copy, one store; only one block has turned.
-/
import Derived.Test.YtndfkpajojbfkaaWords
import Derived.Test.YtndfkpajojbfkaaRows
import Derived.Laws.OwnMore
import Derived.Laws.IdiomCopy
namespace Go.Proofs.Ytndfkpajojbfkaa.By
open Go.RowKit Wd
set_option linter.unusedVariables false

theorem infoB : (Try.prog.info? 5).map (fun i => (i.zero, i.size, i.bytes)) = some (some (.int .u8 0), 1, 1) := by kernel_rfl
/-- only block b has turned -/
structure Only (b : Nat) (w w' : World) : Prop where
  low : ∀ B, B ≤ b → Below B w w'
  block : ∀ k, k ≠ b → w'.heap[k]? = w.heap[k]?

theorem Only.refl (b : Nat) (w : World) : Only b w w := ⟨fun _ _ => Below.refl _ _, fun _ _ => rfl⟩
theorem Only.trans {b : Nat} {x y z : World} (h : Only b x y) (k : Only b y z) : Only b x z := ⟨fun B hB => (h.low B hB).trans (k.low B hB), fun i hi => (k.block i hi).trans (h.block i hi)⟩
theorem Only.size {b : Nat} {w w' : World} (h : Only b w w') : w.heap.size ≤ w'.heap.size := (h.low 0 (Nat.zero_le _)).size
theorem Only.setCell (b i : Nat) (w : World) (v : Value) : Only b w (w.setCell ⟨b, i, none⟩ v) := ⟨fun B hB => (Below.refl B w).setCell (p := ⟨b, i, none⟩) hB v, fun k hk => Below.heap_setCell _ _ _ _ hk⟩
theorem Only.setCells (b : Nat) : ∀ (vs : List Value) (o : Nat) (w : World), Only b w (w.setCells b o vs)
  | [], _, w => Only.refl b w
  | v :: r, o, w => (Only.setCell b o w v).trans (Only.setCells b r (o + 1) _)
theorem Only.cell {b : Nat} {w w' : World} (h : Only b w w') {p : Addr} (hp : p.block ≠ b) : w'.cell? p = w.cell? p := World.cell?_of_block (w := w) (h.block p.block hp)
theorem Only.below {B b : Nat} {a w w' : World} (h : Below B a w) (ho : Only b w w') (hb : B ≤ b) : Below B a w' := h.trans (ho.low B hb)
theorem Sl.only {w w' : World} {B size n b : Nat} {A : Option Addr} {xs : List Value} (h : Sl w B size A n xs) (ho : Only b w w') (hb : B ≤ b) : Sl w' B size A n xs :=
  h.keep fun p hp => ho.cell (by omega)

theorem made_bytes (n : Nat) : (madeCells #[Value.int .u8 0] n).toList = (List.replicate n (0 : UInt8)).map bv := by
  apply List.ext_getElem
  · simp [madeCells]
  · intro j h1 h2
    simp [madeCells, Nat.mod_one, bv]

theorem wpList_make_bytes {ops : Array Oper} {Q : Exit → Act → World → Prop} {a : Act} {w : World} {rest : List Oper} {o : Oper} (hg : o.guard = none) (x y : Operand) (ho : o.op = .makeSlice 36 x y) (n : Nat) (hn : n ≤ 16777216)
    (hx : a.eval x = .int .i64 (n : Int)) (hy : a.eval y = .int .i64 (n : Int))
    (hK : ∀ w', w'.ownsRow w.heap.size 5 1 (.slice (some ⟨w.heap.size, 0, none⟩) n n) n ((List.replicate n (0 : UInt8)).map bv) → Below w.heap.size w w' → w.heap.size < w'.heap.size →
      wpList Try.prog ops Q rest (a.put o.dst (.slice (some ⟨w.heap.size, 0, none⟩) n n)) w') : wpList Try.prog ops Q (o :: rest) a w := by
  obtain ⟨i0, hi, hz0, hz1, hz2⟩ := info_parts infoB
  obtain ⟨w', hr, ho2, hgb⟩ := run_makeSlice_full (P := Try.prog) w w.heap.size 36 5 i0 (.int .u8 0) 1 Try.underlying36 hi hz0 hz1 .i64 .i64 n (by omega) (by rw [hz2]; omega) (by simp only [maxLen]; omega) (Nat.le_refl _)
  have hz : (madeCells (Value.int .u8 0).cells (n * 1)).toList = (List.replicate n (0 : UInt8)).map bv := by
    rw [Nat.mul_one]
    exact made_bytes n
  rw [hz] at ho2
  have hlt : w.heap.size < w'.heap.size := by
    rcases ho2.2 with ⟨h, _⟩ | ⟨g, cap, cur, hv, _, hgg, _⟩
    · cases h
    · injection hv with hA
      injection hA with hA
      injection hA with hA
      subst hA
      exact (Array.getElem?_eq_some_iff.1 hgg).1
  refine wpList_val (by simp [Region.wanted, hg]) _ w' ?_ (hK w' ho2 ((Below.refl _ _).grown hgb (Nat.le_refl _) (fun k hk => by cases hk)) hlt)
  unfold execOp
  simp [ho, hx, hy, hr]
theorem own_set {w : World} {base g n c : Nat} {e : TypeId} {L : List UInt8} (h : w.ownsRow base e 1 (.slice (some ⟨g, 0, none⟩) n c) n (L.map bv)) (j : Nat) (y : UInt8) :
    (w.setCell ⟨g, j, none⟩ (bv y)).ownsRow base e 1 (.slice (some ⟨g, 0, none⟩) n c) n ((L.set j y).map bv) := by
  have := (h.stored j (bv y)).1
  rwa [← List.map_set] at this
theorem own_sets {base g n c : Nat} {e : TypeId} : ∀ (ys : List UInt8) (o : Nat) (M : List UInt8) (w : World), w.ownsRow base e 1 (.slice (some ⟨g, 0, none⟩) n c) n (M.map bv) → o + ys.length ≤ M.length →
    (w.setCells g o (ys.map bv)).ownsRow base e 1 (.slice (some ⟨g, 0, none⟩) n c) n ((M.take o ++ ys ++ M.drop (o + ys.length)).map bv)
  | [], o, M, w, h, hl => by
    have e : M.take o ++ [] ++ M.drop (o + ([] : List UInt8).length) = M := by rw [List.append_nil]; exact List.take_append_drop o M
    rw [e]
    exact h
  | y :: r, o, M, w, h, hl => by
    simp only [List.length_cons] at hl
    have h1 := own_sets r (o + 1) (M.set o y) (w.setCell ⟨g, o, none⟩ (bv y)) (own_set h o y) (by rw [List.length_set]; omega)
    have e1 : (M.set o y).take (o + 1) = M.take o ++ [y] := by
      rw [List.take_add_one, List.getElem?_set_self (by omega), List.take_set_of_le (Nat.le_refl o)]
      rfl
    have e2 : (M.set o y).drop (o + 1 + r.length) = M.drop (o + 1 + r.length) := List.drop_set_of_lt (by omega)
    rw [e1, e2] at h1
    have e3 : M.take o ++ (y :: r) ++ M.drop (o + (y :: r).length) = M.take o ++ [y] ++ r ++ M.drop (o + 1 + r.length) := by
      rw [List.length_cons, show o + (r.length + 1) = o + 1 + r.length by omega]
      simp
    rw [e3]
    exact h1
/-- what copy leaves -/
def over (l M : List UInt8) : List UInt8 := l.take M.length ++ M.drop l.length
theorem over_len (l M : List UInt8) : (over l M).length = M.length := by simp [over]; omega
theorem wpList_copy_bytes {ops : Array Oper} {Q : Exit → Act → World → Prop} {a : Act} {w : World} {rest : List Oper} {o : Oper} (hw : Region.wanted o (yielded ops a.tmps) = true) (s x : Operand)
    (ho : o.op = .call { callee := .builtin .copy, args := #[s, x], argTypes := #[36, 36] }) {base g n c c2 : Nat} {A : Option Addr} {M l : List UInt8} (hn : n = M.length)
    (hs : a.eval s = .slice (some ⟨g, 0, none⟩) n c) (hx : a.eval x = .slice A l.length c2) (hM : w.ownsRow base 5 1 (.slice (some ⟨g, 0, none⟩) n c) n (M.map bv)) {B2 : Nat} (hl : Sl w B2 1 A l.length (l.map bv))
    (hK : ∀ w' v, w'.ownsRow base 5 1 (.slice (some ⟨g, 0, none⟩) n c) n ((over l M).map bv) → Only g w w' → wpList Try.prog ops Q rest (a.put o.dst v) w') : wpList Try.prog ops Q (o :: rest) a w := by
  subst hn
  have hi1 : (Try.prog.info? 5).map (·.size) = some 1 := by kernel_rfl
  by_cases h0 : Nat.min l.length M.length = 0
  · have e : over l M = M := by
      unfold over
      rcases Nat.eq_zero_or_pos l.length with h | h
      · have : l = [] := List.eq_nil_of_length_eq_zero h
        subst this
        simp
      · have : M = [] := List.eq_nil_of_length_eq_zero (by simp [Nat.min_def] at h0; split at h0 <;> omega)
        subst this
        simp
    refine wpList_val hw (goInt 0) w ?_ (hK w _ (by rw [e]; exact hM) (Only.refl g w))
    have hr := run_copy_none (P := Try.prog) w 36 36 o.type 5 (some ⟨g, 0, none⟩) A M.length c l.length c2 Try.underlying36 hi1 h0
    clear hK
    unfold execOp
    generalize a.eval = ρ at *
    simp only [ho, resolve, invoke, builtin, Sem.run_bind, Sem.run_pure, Result.andThen_ok, List.map_toArray, List.map_cons, List.map_nil, hs, hx, hr]
  · have hlp : 0 < l.length := by
      rcases Nat.eq_zero_or_pos l.length with h | h
      · exact absurd (by rw [h]; exact Nat.zero_min _) h0
      · exact h
    obtain ⟨ad, rfl, _, hcell⟩ := hl.2 hlp
    have hyl : (l.take M.length).length = Nat.min l.length M.length := by rw [List.length_take]; exact Nat.min_comm _ _
    have hsrc : ∀ (j : Nat) (v : Value), ((l.take M.length).map bv)[j]? = some v → w.cell? (ad.add j) = some v := by
      intro j v hj
      refine hcell j v ?_
      rw [List.map_take, List.getElem?_take] at hj
      split at hj
      · exact hj
      · cases hj
    have hMs := Sl.own hM
    have hMc : ∀ j, j < M.length → w.cell? ⟨g, j, none⟩ = some (bv (M.getD j 0)) := by
      intro j hj
      obtain ⟨ad2, hA, _, hc2⟩ := hMs.2 (by omega)
      injection hA with hA
      subst hA
      have := hc2 j _ (bv_at M j hj)
      rw [Addr.add_lit, Nat.zero_add] at this
      rw [this, List.getD_eq_getElem?_getD, List.getElem?_eq_getElem hj]
      rfl
    have hfz : ∀ j : Nat, w.frozen? ⟨g, j, none⟩ = false := by
      intro j
      rcases hM.2 with ⟨h, _⟩ | ⟨g', cap, cur, hv, _, hg, _⟩
      · cases h
      · injection hv with hA
        injection hA with hA
        injection hA with hA
        subst hA
        simp [World.frozen?, hg]
    have hle : (l.take M.length).length ≤ M.length := by rw [List.length_take]; omega
    have hr := run_copy_cells (P := Try.prog) w 36 36 o.type 5 g 0 M.length c ad l.length c2 ((l.take M.length).map bv) Try.underlying36 hi1 (by rw [List.length_map]; exact hyl) hsrc
      (fun j hj => by rw [List.length_map] at hj; rw [Nat.zero_add, hMc j (by omega)]; rfl) (fun j _ => by rw [Nat.zero_add]; exact hfz j) (bv_one _)
    have hown := own_sets (l.take M.length) 0 M w hM (by omega)
    have e : M.take 0 ++ l.take M.length ++ M.drop (0 + (l.take M.length).length) = over l M := by
      unfold over
      rw [List.take_zero, List.nil_append, Nat.zero_add, List.length_take]
      congr 1
      by_cases hlm : l.length ≤ M.length
      · rw [Nat.min_eq_right hlm]
      · rw [Nat.min_eq_left (by omega), List.drop_of_length_le (Nat.le_refl _), List.drop_of_length_le (by omega)]
    rw [e] at hown
    refine wpList_val hw (goInt ((l.take M.length).map bv).length) _ ?_ (hK _ _ hown (Only.setCells g _ 0 w))
    clear hK
    unfold execOp
    generalize a.eval = ρ at *
    simp only [ho, resolve, invoke, builtin, Sem.run_bind, Sem.run_pure, Result.andThen_ok, List.map_toArray, List.map_cons, List.map_nil, hs, hx, hr]
def ResM (w : World) (l : List UInt8) (e : Ending) (w' : World) : Prop :=
  ∃ A c, e = .returned (.slice A l.length c) ∧ Mine w' w.heap.size 5 1 (.slice A l.length c) l.length (l.map bv) ∧ Below w.heap.size w w'
set_option maxHeartbeats 400000 in
theorem bytes_any (A : Option Addr) (l : List UInt8) (c : Nat) (w : World) (hs : Sl w w.heap.size 1 A l.length (l.map bv)) (hc : l.length ≤ c) (hk : l.length ≤ 140737488355328) :
    Calls Try.prog 18 #[.slice A l.length c] w (ResM w l) := by
  obtain ⟨i0, hi, hz0, hz1, hz2⟩ := info_parts infoB
  go_enter Try.func18, Try.ntmps18
  go_wp2_with (at_builtin; refine wpList_append_mine rfl _ (.tmp 3) _ _ rfl w.heap.size 5 i0 (.int .u8 0) 1 1 hz1 hz2 rfl (by decide) _ _ _ rfl Mine.nil _ l.length (l.map bv) rfl (Gives.slice Try.underlying36 hi hz0 (by rw [hz1]; exact hs) (bv_one l)) (by simp only [maxLen]; omega) (by omega) (Nat.le_refl _) ?_; intro A3 c3 w3 hm3 hg3 hb3 hat3 hown3; simp only [Nat.zero_add, List.nil_append] at hm3)
  go_ret
  exact ⟨_, _, rfl, hm3, hb3⟩


theorem own_there {w : World} {base g n c : Nat} {e : TypeId} {L : List UInt8} (h : w.ownsRow base e 1 (.slice (some ⟨g, 0, none⟩) n c) n (L.map bv)) (j : Nat) (hj : j < n) :
    w.cell? ⟨g, j, none⟩ = some (bv (L.getD j 0)) ∧ w.frozen? ⟨g, j, none⟩ = false := by
  have hl : L.length = n := by have := h.1; simpa using this
  constructor
  · obtain ⟨ad, hA, _, hc⟩ := (Sl.own h).2 (by omega)
    injection hA with hA
    subst hA
    have := hc j _ (bv_at L j (by omega))
    rw [Addr.add_lit, Nat.zero_add] at this
    rw [this, List.getD_eq_getElem?_getD, List.getElem?_eq_getElem (by omega)]
    rfl
  · rcases h.2 with ⟨h, _⟩ | ⟨g', cap, cur, hv, _, hg, _⟩
    · cases h
    · injection hv with hA
      injection hA with hA
      injection hA with hA
      subst hA
      simp [World.frozen?, hg]
theorem Only.drew {b : Nat} {w w' : World} (h : Only b w w') : Only b w w'.drew := ⟨fun B hB => (h.low B hB).drew, h.block⟩
theorem own_ge {w : World} {base g n c : Nat} {e : TypeId} {s : Nat} {xs : List Value} (h : w.ownsRow base e s (.slice (some ⟨g, 0, none⟩) n c) n xs) : base ≤ g := by
  rcases h.2 with ⟨h, _⟩ | ⟨g', cap, cur, hv, hb, _⟩
  · cases h
  · injection hv with hA
    injection hA with hA
    injection hA with hA
    subst hA
    exact hb
theorem own_lower {w : World} {base base' n : Nat} {e : TypeId} {s : Nat} {v : Value} {xs : List Value} (h : w.ownsRow base e s v n xs) (hb : base' ≤ base) : w.ownsRow base' e s v n xs := by
  refine ⟨h.1, ?_⟩
  rcases h.2 with hn | ⟨g, cap, cur, hv, hg, rest⟩
  · exact .inl hn
  · exact .inr ⟨g, cap, cur, hv, Nat.le_trans hb hg, rest⟩
theorem sizeB : (Try.prog.info? 5).map (·.size) = some 1 := by kernel_rfl
theorem wpList_store_byte {ops : Array Oper} {Q : Exit → Act → World → Prop} {a : Act} {w : World} {rest : List Oper} {o : Oper} (hw : Region.wanted o (yielded ops a.tmps) = true) (x y : Operand) (ho : o.op = .store 5 x y)
    {base g n c : Nat} {L : List UInt8} (h : w.ownsRow base 5 1 (.slice (some ⟨g, 0, none⟩) n c) n (L.map bv)) (j : Nat) (hj : j < n) (v : UInt8)
    (hx : a.eval x = .pointer (some ⟨g, j, none⟩)) (hy : a.eval y = .int .u8 (v.toNat : Int))
    (hK : ∀ w', w'.ownsRow base 5 1 (.slice (some ⟨g, 0, none⟩) n c) n ((L.set j v).map bv) → Only g w w' → wpList Try.prog ops Q rest (a.put o.dst undef) w') : wpList Try.prog ops Q (o :: rest) a w := by
  refine wpList_skipped hw (w.setCell ⟨g, j, none⟩ (bv v)) ?_ (hK _ (own_set h j v) (Only.setCell g j w _))
  obtain ⟨h1, h2⟩ := own_there h j hj
  obtain ⟨i0, hi, _, hz1, _⟩ := info_parts infoB
  have h3 : (sizeOf 5).run Try.prog w = .ok 1 w := by simp [sizeOf, typeInfo, hi, hz1]
  clear hK
  unfold execOp
  unfold bv at h1 ⊢
  generalize a.eval = ρ at *
  simp [ho, hx, hy, go_sem, h1, h2, h3]
end Go.Proofs.Ytndfkpajojbfkaa.By
