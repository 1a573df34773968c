/-
  dir: entries in a row of the call's own: made of zeros, copied into, one stored.
-/
import Derived.Test.YtifbbbphoponcaaDir10
import Derived.Laws.CopyOwn
import Derived.Laws.OwnMore
import Derived.Deep.MidRow
import Derived.OwnWalk
namespace Go.Proofs.Ytifbbbphoponcaa.Dr
open Go.RowKit Wd
set_option linter.unusedVariables false
set_option linter.unusedSimpArgs false

/-- a block that holds just these entries -/
def Row (w : World) (g : Nat) (L : List En) : Prop := w.heap[g]? = some (.cells (ecs L).toArray 40 (0, 0))
def spl (L : List En) (k : Nat) (cs : List En) : List En := L.take k ++ (cs ++ L.drop (k + cs.length))
theorem spl_len {L cs : List En} {k : Nat} (h : k + cs.length ≤ L.length) : (spl L k cs).length = L.length := by simp [spl]; omega
def zeros (n : Nat) : List En := List.replicate n (ByteArray.empty, 0)
theorem ecs_set : ∀ (l : List En) (k : Nat) (e : En), k < l.length → ((ecs l).set (k * 2) (.string e.1)).set (k * 2 + 1) (.int .i64 e.2) = ecs (l.set k e)
  | [], k, e, h => by simp at h
  | x :: r, 0, e, _ => rfl
  | x :: r, k + 1, e, h => by
    have ih := ecs_set r k e (by simpa using h)
    have e1 : (k + 1) * 2 = k * 2 + 2 := by omega
    rw [e1]
    show Value.string x.1 :: Value.int .i64 x.2 :: _ = _
    rw [ih]
    rfl
theorem ecs_zero : ∀ (n j : Nat), (ecs (zeros n))[j]? = if j < n * 2 then some (if j % 2 = 0 then .string ByteArray.empty else .int .i64 0) else none
  | 0, j => by simp [zeros, ecs]
  | n + 1, 0 => by simp [zeros, ecs, List.replicate_succ]
  | n + 1, 1 => by
    have h : 1 < (n + 1) * 2 := by omega
    simp [zeros, ecs, List.replicate_succ, h]
  | n + 1, j + 2 => by
    have ih := ecs_zero n j
    have e1 : zeros (n + 1) = (ByteArray.empty, 0) :: zeros n := rfl
    rw [e1]
    show (ecs (zeros n))[j]? = _
    rw [ih]
    by_cases h : j < n * 2
    · have h' : j + 2 < (n + 1) * 2 := by omega
      rw [if_pos h, if_pos h', Nat.add_mod_right]
    · have h' : ¬ j + 2 < (n + 1) * 2 := by omega
      rw [if_neg h, if_neg h']
theorem made_ents (n : Nat) : (madeCells (Value.agg #[.string ByteArray.empty, .int .i64 0]).cells (n * 2)).toList = ecs (zeros n) := by
  apply List.ext_getElem?
  intro j
  rw [ecs_zero]
  by_cases h : j < n * 2
  · rw [if_pos h]
    have h2 : j % 2 = 0 ∨ j % 2 = 1 := by omega
    rcases h2 with h2 | h2 <;> simp [madeCells, Value.cells, h, h2]
  · rw [if_neg h]
    simp [madeCells, h]
theorem Row.sl {w : World} {g : Nat} {L : List En} (h : Row w g L) : Sl w w.heap.size 2 (some ⟨g, 0, none⟩) L.length (ecs L) :=
  ⟨ecs_len L, fun _ => ⟨_, rfl, (Array.getElem?_eq_some_iff.1 h).1, fun j u hj => by
    rw [Addr.add_lit, Nat.zero_add, cell_of_row _ _ _ _ _ (0, 0) h]
    simpa using hj⟩⟩
theorem Row.keep {w w' : World} {g : Nat} {L : List En} (h : Row w g L) (hk : w'.heap[g]? = w.heap[g]?) : Row w' g L := hk.trans h
theorem Row.lt {w : World} {g : Nat} {L : List En} (h : Row w g L) : g < w.heap.size := (Array.getElem?_eq_some_iff.1 h).1
theorem Row.on {w w' : World} {g : Nat} {L : List En} (h : Row w g L) (hb : Below w.heap.size w w') : Row w' g L := h.keep (hb.block g h.lt)
theorem Row.there {w : World} {g : Nat} {L : List En} (h : Row w g L) {k : Nat} (hk : k < L.length) : w.there g (k * 2) 2 := fun j hj => by
  refine ⟨?_, by simp [World.frozen?, show w.heap[g]? = _ from h]⟩
  rw [cell_of_row _ _ _ _ _ (0, 0) h]
  have hl : (ecs L).toArray.size = L.length * 2 := by simp [ecs_len]
  have : k * 2 + j < (ecs L).toArray.size := by omega
  rw [Array.getElem?_eq_getElem this]
  rfl
theorem Row.put {w : World} {g : Nat} {L : List En} (h : Row w g L) {k : Nat} (hk : k < L.length) (e : En) : Row (w.setCells g (k * 2) [.string e.1, .int .i64 e.2]) g (L.set k e) := by
  show ((w.setCell ⟨g, k * 2, none⟩ _).setCell ⟨g, k * 2 + 1, none⟩ _).heap[g]? = _
  have h1 := heap_setCell_same w g (k * 2) _ _ (.string e.1) h
  have h2 := heap_setCell_same _ g (k * 2 + 1) _ _ (.int .i64 e.2) h1
  rw [h2, ← ecs_set L k e hk]
  simp
theorem below_setCells {B : Nat} {w0 : World} {g : Nat} (hg : B ≤ g) : ∀ (vs : List Value) (o : Nat) (w : World), Below B w0 w → Below B w0 (w.setCells g o vs)
  | [], _, _, h => h
  | v :: r, o, w, h => below_setCells hg r (o + 1) _ (h.setCell (p := ⟨g, o, none⟩) hg v)
section
variable {ops : Array Oper} {Q : Exit → Act → World → Prop} {a : Act} {w : World} {rest : List Oper} {o : Oper}
theorem wpList_store_ent (hg : o.guard = none) (x y : Operand) (ho : o.op = .store 40 x y) {g k : Nat} {L : List En} {e : En} (h : Row w g L) (hk : k < L.length)
    (hx : a.eval x = .pointer (some ⟨g, k * 2, none⟩)) (hy : a.eval y = .agg #[.string e.1, .int .i64 e.2]) {B : Nat} {w0 : World} (hB : B ≤ g) (hb : Below B w0 w)
    (hK : ∀ w', Row w' g (L.set k e) → Below B w0 w' → (∀ B w0, Below B w0 w → B ≤ g → Below B w0 w') → wpList Try.prog ops Q rest (a.put o.dst undef) w') : wpList Try.prog ops Q (o :: rest) a w :=
  wpList_store_mid hg 40 x y ho g (k * 2) #[.string e.1, .int .i64 e.2] hx hy (h.there hk) infoE (by simp [Value.oneCell']) (hK _ (h.put hk e) (below_setCells hB _ _ _ hb) (fun _ _ hb hB => below_setCells hB _ _ _ hb))
theorem wpList_make_ents (hg : o.guard = none) (x y : Operand) (ho : o.op = .makeSlice 22 x y) (n : Nat) (hn : n ≤ 16777216) (hx : a.eval x = .int .i64 (n : Int)) (hy : a.eval y = .int .i64 (n : Int))
    (hK : ∀ w' g, Row w' g (zeros n) → w.heap.size ≤ g → Below w.heap.size w w' → wpList Try.prog ops Q rest (a.put o.dst (.slice (some ⟨g, 0, none⟩) n n)) w') : wpList Try.prog ops Q (o :: rest) a w := by
  obtain ⟨i0, hi, hz0, hz1, hz2⟩ := info_parts infoEnt
  refine wpList_make_full w hg x y 22 ho w.heap.size 40 i0 (.agg #[.string ByteArray.empty, .int .i64 0]) 2 Try.underlying22 hi hz0 hz1 .i64 .i64 (n : Int) (n : Int) n hx hy rfl rfl (by rw [hz2]; omega) (by simp only [maxLen]; omega) (Nat.le_refl _) fun w' ho2 hgb => ?_
  rw [made_ents] at ho2
  have hr : Row w' w.heap.size (zeros n) := by
    rcases ho2.2 with ⟨h, _⟩ | ⟨g, cap, cur, hv, _, hgg, h1, h2, h3, h4⟩
    · cases h
    · injection hv with hA hB hC
      injection hA with hA
      injection hA with hA
      subst hA
      subst hC
      have : cur.toList = ecs (zeros n) := by rw [← h4, List.take_of_length_le (by simp [h3])]
      show _ = _
      rw [hgg, ← this]
  exact hK w' _ hr (Nat.le_refl _) ((Below.refl _ _).grown hgb (Nat.le_refl _) (fun k hk => by cases hk))
end
/-- copy, into a row that is known whole -/
theorem run_copy_ent (w : World) (ty : TypeId) {g k d cd n c : Nat} {D A : Option Addr} {L xs : List En} (h : Row w g L) (hx : xs.length = n) {B : Nat} (hs : Sl w B 2 A n (ecs xs)) (m : Nat) (hm : m = Nat.min n d) (hD : 0 < m → D = some ⟨g, k * 2, none⟩) (hfit : k + m ≤ L.length) :
    ∃ w', (Builtin.copy_ #[22, 22] ty #[.slice D d cd, .slice A n c]).run Try.prog w = .ok (goInt m) w' ∧ Row w' g (spl L k (xs.take m)) ∧ ∀ B w0, Below B w0 w → B ≤ g → Below B w0 w' := by
  have hu : Try.prog.underlying 22 = some (.slice 40) := Try.underlying22
  obtain ⟨i0, hi, hz0, hz1, hz2⟩ := info_parts infoEnt
  have hmn : m ≤ n := by rw [hm]; exact Nat.min_le_left _ _
  rcases Nat.eq_zero_or_pos m with h0 | h0
  · subst h0
    refine ⟨w, ?_, by simpa [spl] using h, fun _ _ hb _ => hb⟩
    cases A with
    | none => cases D <;> simp [Builtin.copy_, run_underlying hu, Builtin.lenOf, Builtin.firstCells, sizeOf, typeInfo, hi, hz1, ← hm, storeCells]
    | some ad =>
      have hl := run_loadCells_list (P := Try.prog) w ad [] (fun j v hj => by simp at hj)
      simp only [List.length_nil] at hl
      cases D <;> simp [Builtin.copy_, run_underlying hu, Builtin.lenOf, Builtin.firstCells, sizeOf, typeInfo, hi, hz1, ← hm, hl, storeCells]
  · obtain ⟨ad, rfl, _, hcell⟩ := hs.2 (by omega)
    have hD' := hD h0
    subst hD'
    have hcl : (ecs (xs.take m)).length = m * 2 := by rw [ecs_len, List.length_take]; omega
    have hl := run_loadCells_list (P := Try.prog) w ad (ecs (xs.take m)) (fun j v hj => hcell j v (by
      rw [← ecs_take, List.getElem?_take] at hj
      split at hj
      · exact hj
      · cases hj))
    have hst := run_storeCells_at Try.prog g (k * 2) _ (ecs (xs.take m)) 0 _ w h (by simp [ecs_len]; omega) (ecs_one _)
    rw [hcl] at hl
    refine ⟨w.setRow g ((ecs L).toArray.toList.take (k * 2 + 0) ++ ecs (xs.take m) ++ (ecs L).toArray.toList.drop (k * 2 + 0 + (ecs (xs.take m)).length)).toArray, ?_, ?_, fun B w0 hb hB => below_setRow hb hB _⟩
    · simp only [Builtin.copy_, Builtin.lenOf, Builtin.firstCells, sizeOf, typeInfo]
      simp [run_underlying hu, Builtin.lenOf, Builtin.firstCells, sizeOf, typeInfo, hi, hz1, ← hm, hl, hst]
    · refine (setRow_heap w g _ _ _ _ h).trans ?_
      rw [hcl]
      have e : k * 2 + 0 + m * 2 = (k + m) * 2 := by omega
      have e2 : (xs.take m).length = m := by rw [List.length_take]; omega
      rw [e, Nat.add_zero, List.toList_toArray, ecs_take, ecs_drop, ← ecs_append, ← ecs_append]
      unfold spl
      rw [e2, List.append_assoc]
section
variable {Q : Exit → Act → World → Prop} {a : Act} {w : World} {o : Oper}
theorem wp_copy_ent {K : Act → World → Prop} (s y : Operand) (ho : o.op = .call { callee := .builtin .copy, args := #[s, y], argTypes := #[22, 22] })
    {g k d cd n c : Nat} {D A : Option Addr} {L xs : List En} (hs : a.eval s = .slice D d cd) (hy : a.eval y = .slice A n c) (h : Row w g L) (hx : xs.length = n) {B : Nat} (hsl : Sl w B 2 A n (ecs xs)) (m : Nat) (hm : m = Nat.min n d)
    (hD : 0 < m → D = some ⟨g, k * 2, none⟩) (hfit : k + m ≤ L.length) {B0 : Nat} {w0 : World} (hb : Below B0 w0 w) (hB : B0 ≤ g)
    (hK : ∀ w', Row w' g (spl L k (xs.take m)) → Below B0 w0 w' → (∀ B w0, Below B w0 w → B ≤ g → Below B w0 w') → K (a.put o.dst (goInt m)) w') : Oper.wp Try.prog o a w K Q := by
  obtain ⟨w', hr, h1, h2⟩ := run_copy_ent w o.type (cd := cd) (c := c) h hx hsl m hm hD hfit
  unfold Oper.wp execOp
  simp only [ho, resolve, invoke, builtin, Sem.run_bind, Sem.run_pure, Result.andThen_ok, List.map_toArray, List.map_cons, List.map_nil, hs, hy, hr]
  exact hK _ h1 (h2 _ _ hb hB) h2
theorem wpList_copy_ent {ops : Array Oper} {rest : List Oper} (hg : o.guard = none) (s y : Operand) (ho : o.op = .call { callee := .builtin .copy, args := #[s, y], argTypes := #[22, 22] })
    {g k d cd n c : Nat} {D A : Option Addr} {L xs : List En} (hs : a.eval s = .slice D d cd) (hy : a.eval y = .slice A n c) (h : Row w g L) (hx : xs.length = n) {B : Nat} (hsl : Sl w B 2 A n (ecs xs)) (m : Nat) (hm : m = Nat.min n d)
    (hD : 0 < m → D = some ⟨g, k * 2, none⟩) (hfit : k + m ≤ L.length) {B0 : Nat} {w0 : World} (hb : Below B0 w0 w) (hB : B0 ≤ g)
    (hK : ∀ w', Row w' g (spl L k (xs.take m)) → Below B0 w0 w' → (∀ B w0, Below B w0 w → B ≤ g → Below B w0 w') → wpList Try.prog ops Q rest (a.put o.dst (goInt m)) w') : wpList Try.prog ops Q (o :: rest) a w :=
  wpList_plain hg fun _ hK' => wp_copy_ent s y ho hs hy h hx hsl m hm hD hfit hb hB fun w' h1 h2 h3 => hK' _ _ (hK w' h1 h2 h3)
/-- a cut of a slice of entries, as one step -/
theorem wp_slice_ent {K : Act → World → Prop} {s : Operand} {lo up : Option Operand} (ho : o.op = .slice 22 s lo up none) {n c l d : Nat} {A D : Option Addr} (hs : a.eval s = .slice A n c)
    (hl : (lo.map a.eval = none ∧ l = 0) ∨ lo.map a.eval = some (.int .i64 (l : Int))) (hu : (up.map a.eval = none ∧ l + d = n) ∨ up.map a.eval = some (.int .i64 ((l + d : Nat) : Int))) (h2 : l + d ≤ n) (h3 : n ≤ c)
    (hD : D = if c = l then A else A.map (·.add (l * 2))) (hK : K (a.put o.dst (.slice D d (c - l))) w) : Oper.wp Try.prog o a w K Q := by
  subst hD
  obtain ⟨i0, hi, hz0, hz1, hz2⟩ := info_parts infoEnt
  have hrun := run_slice_sl (P := Try.prog) w 22 40 i0 Try.underlying22 hi A n c (lo.map a.eval) (up.map a.eval) none l (l + d) c
    (hl.imp id (fun h => ⟨_, h⟩)) (hu.imp (fun h => ⟨h.1, rfl, h.2⟩) (fun h => ⟨_, h⟩)) (.inl ⟨rfl, rfl⟩) (by omega) (by omega) (Nat.le_refl _)
  rw [Nat.add_sub_cancel_left, hz1] at hrun
  unfold Oper.wp execOp
  simp only [ho, hs, Option.map_none, hrun, Sem.run_bind, Sem.run_pure, Result.andThen_ok]
  exact hK
end
theorem cut_sl {w : World} {B n c l d : Nat} {A : Option Addr} {xs : List En} (h : Sl w B 2 A n (ecs xs)) (h2 : l + d ≤ n) (h3 : n ≤ c) : Sl w B 2 (if c = l then A else A.map (·.add (l * 2))) d (ecs ((xs.drop l).take d)) := by
  have hc := h.cut (lo := l) (hi := l + d) (m := c) (by omega) h2 (by omega)
  rw [Nat.add_sub_cancel_left, ecs_drop, ecs_take] at hc
  exact hc
end Go.Proofs.Ytifbbbphoponcaa.Dr
