/-
  alloc.Next: what its walk carries along; the ways on which it hands back nothing at the start.
-/
import Derived.Test.YtgfhepfikphliaaAlloc0
import Derived.Test.YtgfhepfikphliaaInode3
namespace Go.Proofs.Ytgfhepfikphliaa.Al
open Go.RowKit Wd In
set_option linter.unusedVariables false

/-- the four variables of Next, and that nothing that was there has turned -/
structure St (w0 w : World) (b4 b5 b8 b11 : Nat) (old x : List Int) : Prop where
  r4 : IRow w b4 old
  r5 : IRow w b5 x
  r8 : IRow w b8 zIno
  r11 : IRow w b11 zIno
  bel : Below w0.heap.size w0 w
  o0 : w0.heap.size ≤ b4
  o1 : b4 < b5
  o2 : b5 < b8
  o3 : b8 < b11
  o4 : b11 < w.heap.size
section
variable {w0 w w' : World} {b4 b5 b8 b11 b : Nat} {old x x' : List Int}
theorem St.start {w1 w2 w3 w4 : World} (r1 : IRow w1 w.heap.size old) (k1 : Below w.heap.size w w1) (l1 : w.heap.size < w1.heap.size) (r2 : IRow w2 w1.heap.size x) (k2 : Below w1.heap.size w1 w2) (l2 : w1.heap.size < w2.heap.size)
    (r3 : IRow w3 w2.heap.size zIno) (k3 : Below w2.heap.size w2 w3) (l3 : w2.heap.size < w3.heap.size) (r4 : IRow w4 w3.heap.size zIno) (k4 : Below w3.heap.size w3 w4) (l4 : w3.heap.size < w4.heap.size) :
    St w w4 w.heap.size w1.heap.size w2.heap.size w3.heap.size old x := by
  have k12 := k1.trans (k2.mono (Nat.le_of_lt l1))
  have k13 := k12.trans (k3.mono (by omega))
  exact ⟨((r1.below k2 l1).below k3 (by omega)).below k4 (by omega), (r2.below k3 l2).below k4 (by omega), r3.below k4 l3, r4, k13.trans (k4.mono (by omega)), Nat.le_refl _, l1, l2, l3, l4⟩
theorem St.on5 (h : St w0 w b4 b5 b8 b11 old x) (hr : IRow w' b5 x') (ho : Only b5 w w') : St w0 w' b4 b5 b8 b11 old x' :=
  ⟨h.r4.only ho (Nat.ne_of_lt h.o1), hr, h.r8.only ho (Nat.ne_of_gt h.o2), h.r11.only ho (Nat.ne_of_gt (Nat.lt_trans h.o2 h.o3)), ho.below h.bel (Nat.le_trans h.o0 (Nat.le_of_lt h.o1)), h.o0, h.o1, h.o2, h.o3, Nat.lt_of_lt_of_le h.o4 ho.size⟩
theorem St.only (h : St w0 w b4 b5 b8 b11 old x) (ho : Only b w w') (hb : b11 < b) : St w0 w' b4 b5 b8 b11 old x := by
  have := h.o0; have := h.o1; have := h.o2; have := h.o3
  exact ⟨h.r4.only ho (by omega), h.r5.only ho (by omega), h.r8.only ho (by omega), h.r11.only ho (by omega), ho.below h.bel (by omega), h.o0, h.o1, h.o2, h.o3, Nat.lt_of_lt_of_le h.o4 ho.size⟩
theorem St.below {B : Nat} (h : St w0 w b4 b5 b8 b11 old x) (hb : Below B w w') (hB : b11 < B) : St w0 w' b4 b5 b8 b11 old x := by
  have := h.o0; have := h.o1; have := h.o2; have := h.o3
  exact ⟨h.r4.below hb (by omega), h.r5.below hb (by omega), h.r8.below hb (by omega), h.r11.below hb (by omega), h.bel.trans (hb.mono (by omega)), h.o0, h.o1, h.o2, h.o3, Nat.lt_of_lt_of_le h.o4 hb.size⟩
/-- behind the last store: the result's row -/
theorem St.end8 (h : St w0 w b4 b5 b8 b11 old x) (ho : Only b8 w w') : Below w0.heap.size w0 w' := by
  have := h.o0; have := h.o1; have := h.o2
  exact ho.below h.bel (by omega)
end
/-- block b tells of each number whether it is in l -/
structure Stay (w : World) (b : Nat) (l : List Int) : Prop where
  cell : ∀ n : Nat, n < 1024 → w.cell? ⟨b, n, none⟩ = some (.bool (l.contains (n : Int)))
  fz : ∀ n : Nat, w.frozen? ⟨b, n, none⟩ = false
theorem Stay.of_block {w w' : World} {b : Nat} {l : List Int} (h : Stay w b l) (hb : w'.heap[b]? = w.heap[b]?) : Stay w' b l :=
  ⟨fun n hn => (World.cell?_of_block (w := w) hb).trans (h.cell n hn), fun n => (World.frozen?_of_block (w := w) hb).trans (h.fz n)⟩
theorem Stay.below {w w' : World} {B b : Nat} {l : List Int} (h : Stay w b l) (hb : Below B w w') (hlt : b < B) : Stay w' b l := h.of_block (hb.block b hlt)
theorem Stay.only {w w' : World} {b b' : Nat} {l : List Int} (h : Stay w b l) (ho : Only b' w w') (hne : b ≠ b') : Stay w' b l := h.of_block (ho.block b hne)
theorem Stay.set {w : World} {b : Nat} {l : List Int} (h : Stay w b l) (n : Nat) (hn : n < 1024) : Stay (w.setCell ⟨b, n, none⟩ (.bool true)) b (l ++ [(n : Int)]) := by
  refine ⟨fun m hm => ?_, fun m => (World.frozen?_setCell _ _ _ _).trans (h.fz m)⟩
  by_cases hmn : m = n
  · subst hmn
    rw [World.cell?_setCell_same' _ _ _ (by rw [h.cell m hn]; rfl)]
    simp
  · rw [World.cell?_setCell_other _ _ _ _ (by simp <;> omega), h.cell m hm]
    have : ¬ (m : Int) = (n : Int) := by omega
    simp [this]
section
variable {ops : Array Oper} {Q : Exit → Act → World → Prop} {a : Act} {w : World} {rest : List Oper} {o : Oper}
theorem wpList_alloc_stay (hw : Region.wanted o (yielded ops a.tmps) = true) (ho : o.op = .alloc 49) (hK : ∀ w', Stay w' w.heap.size [] → Below w.heap.size w w' → w.heap.size < w'.heap.size → wpList Try.prog ops Q rest (a.put o.dst (.pointer (some ⟨w.heap.size, 0, none⟩))) w') : wpList Try.prog ops Q (o :: rest) a w :=
  wpList_val hw _ _ (exec_alloc44 _ _ _ ho) (hK _ ⟨fun n hn => by rw [cell_of_row _ _ n _ _ (0, 0) (heap_alloc_new w _)]; exact zeros44_at n hn, fun n => World.frozen?_alloc_new w _ _ n⟩ ((Below.refl _ _).alloc (Nat.le_refl _) _) (by simp))
theorem wpList_store_stay (hg : o.guard = none) (t : TypeId) (x y : Operand) (ho : o.op = .store t x y) (hs : (Try.prog.info? t).map (·.size) = some 1) {b : Nat} {l : List Int} (h : Stay w b l) (n : Nat) (hn : n < 1024)
    (hx : a.eval x = .pointer (some ⟨b, n, none⟩)) (hy : a.eval y = .bool true)
    (hK : ∀ w', Stay w' b (l ++ [(n : Int)]) → Only b w w' → wpList Try.prog ops Q rest (a.put o.dst undef) w') : wpList Try.prog ops Q (o :: rest) a w := by
  refine wpList_skipped (by simp [Region.wanted, hg]) (w.setCell ⟨b, n, none⟩ (.bool true)) ?_ (hK _ (h.set n hn) (Only.setCell b n w _))
  have h1 := h.cell n hn
  have h2 := h.fz n
  have h3 := In.run_sizeOf Try.prog w t 1 hs
  clear hK
  unfold execOp
  generalize a.eval = ρ at *
  simp [ho, hx, hy, go_sem, h1, h2, h3]
theorem wpList_load_stay (hw : Region.wanted o (yielded ops a.tmps) = true) (t : TypeId) (x : Operand) (ho : o.op = .load t x) (ht : Try.prog.underlying t = some .bool) {b : Nat} {l : List Int} (h : Stay w b l) (n : Nat) (hn : n < 1024)
    (hx : a.eval x = .pointer (some ⟨b, n, none⟩)) (v : Bool) (hv : l.contains (n : Int) = v) (hK : wpList Try.prog ops Q rest (a.put o.dst (.bool v)) w) : wpList Try.prog ops Q (o :: rest) a w := by
  refine wpList_val hw (.bool v) w ?_ hK
  have h1 := h.cell n hn
  rw [hv] at h1
  have hag : (isAgg t).run Try.prog w = .ok false w := by simp [isAgg, run_underlying ht]
  clear hK
  unfold execOp
  generalize a.eval = ρ at *
  simp [ho, hx, go_sem, h1, hag]
end
theorem own_only {w w' : World} {base b : Nat} {e : TypeId} {size n : Nat} {v : Value} {xs : List Value} (h : w.ownsRow base e size v n xs) (ho : Only b w w') (hb : b < base) : w'.ownsRow base e size v n xs := by
  refine ⟨h.1, ?_⟩
  rcases h.2 with hn | ⟨g, cap, cur, hv, hg, hh, rest⟩
  · exact .inl hn
  · exact .inr ⟨g, cap, cur, hv, hg, (ho.block g (by omega)).trans hh, rest⟩
theorem chk_ptrs {xs : List Int} (hl : xs.length = 37) (h : chkL xs = true) (k : Nat) (p : Int) (hp : (xs.drop 5)[k]? = some p) : 0 ≤ p ∧ p ≤ 1023 := by
  obtain ⟨k0, s0, l0, o0, n0, ps, rfl, hps⟩ := five hl
  exact (chk_bd hps h).2.2.2.2.2 k p hp
theorem gone_next {old X : List Int} {k : Nat} {q : Int} (hq : (old.drop 5)[k]? = some q) : (((old.drop 5).take (k + 1)).filter fun p => !(p == 0) && !((X.drop 5).contains p)) =
    (((old.drop 5).take k).filter fun p => !(p == 0) && !((X.drop 5).contains p)) ++ (if q = 0 then [] else if (X.drop 5).contains q then [] else [q]) := by
  rw [List.take_add_one, hq, List.filter_append]
  congr 1
  by_cases h0 : q = 0
  · simp [h0]
  · cases hc : (X.drop 5).contains q
    · rw [if_neg h0]
      simp only [Option.toList_some, List.filter_cons, List.filter_nil]
      rw [hc]
      simp [h0]
    · rw [if_neg h0]
      simp only [Option.toList_some, List.filter_cons, List.filter_nil]
      rw [hc]
      simp
theorem own_low {w : World} {b b' : Nat} {e : TypeId} {size n : Nat} {v : Value} {xs : List Value} (h : w.ownsRow b e size v n xs) (hb : b' ≤ b) : w.ownsRow b' e size v n xs := by
  refine ⟨h.1, ?_⟩
  rcases h.2 with hn | ⟨g, cap, cur, hv, hg, rest⟩
  · exact .inl hn
  · exact .inr ⟨g, cap, cur, hv, by omega, rest⟩
/-- what Next hands back -/
def NextR (w0 : World) (m : Option (List Int × List Int)) (e : Ending) (w' : World) : Prop :=
  match m with
  | none => e = .returned (.tuple #[.agg (ints zIno), .slice none 0 0, .bool false]) ∧ Below w0.heap.size w0 w'
  | some (X, g) => ∃ A c, e = .returned (.tuple #[.agg (ints X), .slice A g.length c, .bool true]) ∧ w'.ownsRow w0.heap.size 3 1 (.slice A g.length c) g.length (g.map (Value.int .i64)) ∧ Below w0.heap.size w0 w'
theorem nextR_none {w0 w' : World} {m : Option (List Int × List Int)} (h : m = none) (hb : Below w0.heap.size w0 w') : NextR w0 m (.returned (.tuple #[.agg (ints zIno), .slice none 0 0, .bool false])) w' := by
  subst h
  exact ⟨rfl, hb⟩
theorem nextR_some {w0 w' : World} {m : Option (List Int × List Int)} {X g : List Int} {A : Option Addr} {n c : Nat} (h : m = some (X, g)) (hn : n = g.length) {B : Nat} (hs : w'.ownsRow B 3 1 (.slice A g.length c) g.length (g.map (Value.int .i64))) (hB : w0.heap.size ≤ B) (hb : Below w0.heap.size w0 w') :
    NextR w0 m (.returned (.tuple #[.agg (ints X), .slice A n c, .bool true])) w' := by
  subst h; subst hn
  exact ⟨A, c, rfl, own_low hs hB, hb⟩

set_option maxRecDepth 100000 in
set_option maxHeartbeats 800000 in
theorem next_bad (old now ps ts : List Int) (Ap At : Option Addr) (cp ct : Nat) (w : World) (hold : old.length = 37) (hnow : now.length = 37) (h : chkL old = false ∨ (chkL old = true ∧ ps.length ≠ ts.length)) :
    Calls Try.prog 9 #[.agg (ints old), .agg (ints now), .slice Ap ps.length cp, .slice At ts.length ct] w (NextR w (nextM old now ps ts)) := by
  have hm : nextM old now ps ts = none := by
    unfold nextM
    rw [if_neg]
    rintro ⟨h1, h2⟩
    rcases h with h | ⟨_, h⟩
    · rw [h1] at h; cases h
    · exact h h2
  have HM := Lib.hid hm
  have HO := Lib.hid hold
  have HN := Lib.hid hnow
  have HCK := Lib.hid (checkL hold)
  rcases h with h | ⟨h, hne⟩
  · rw [h] at HCK
    clear hm hold hnow h
    go_enter Try.func9, Try.ntmps9
    go_wp2_with (first
      | ((with_reducible show wpList _ _ _ (⟨some 4, _, _, _, _, _⟩ :: _) _ _); refine wpList_box_ino rfl _ rfl HO.out rfl ?_; intro w1 hr1 hb1 hlt1)
      | ((with_reducible show wpList _ _ _ (⟨some 5, _, _, _, _, _⟩ :: _) _ _); refine wpList_box_ino rfl _ rfl HN.out rfl ?_; intro w2 hr2 hb2 hlt2)
      | ((with_reducible show wpList _ _ _ (⟨some 8, _, _, _, _, _⟩ :: _) _ _); refine wpList_alloc_ino rfl rfl ?_; intro w3 hr3 hb3 hlt3)
      | ((with_reducible show wpList _ _ _ (⟨some 11, _, _, _, _, _⟩ :: _) _ _); refine wpList_alloc_ino rfl rfl ?_; intro w4 hr4 hb4 hlt4; have HS := Lib.hid (St.start hr1 hb1 hlt1 hr2 hb2 hlt2 hr3 hb3 hlt3 hr4 hb4 hlt4); clear hr1 hb1 hlt1 hr2 hb2 hlt2 hr3 hb3 hlt3 hr4 hb4 hlt4)
      | ((with_reducible show wpList _ _ _ (⟨some 23, _, _, _, _, _⟩ :: _) _ _); refine wpList_load_ino rfl _ rfl HS.out.r4 HO.out rfl ?_)
      | (go_at_call 23; refine (HCK.out _).mono ?_; rintro e w5 ⟨rfl, hb5⟩; replace HS := Lib.hid (HS.out.below hb5 HS.out.o4); clear hb5)
      | ((with_reducible show wpList _ _ _ (⟨some 33, _, _, _, _, _⟩ :: _) _ _); refine wpList_load_ino rfl _ rfl HS.out.r11 zIno_len rfl ?_)
      | ((with_reducible show wpList _ _ _ (⟨none, Op.store 24 (.tmp 8) _, _, _, _, _⟩ :: _) _ _); refine wpList_store_ino rfl _ _ rfl HS.out.r8 zIno_len zIno_len rfl rfl ?_; intro w9 hr9 ho9))
    (try simp only [Exit.inBlock, Exit.then])
    refine bodyPost_ret (results_ino3 rfl hr9 zIno_len _ rfl) rfl ?_
    exact nextR_none HM.out (HS.out.end8 ho9)
  · rw [h] at HCK
    have hneI : ((ps.length : Int) != (ts.length : Int)) = true := by simp; omega
    clear hm hold hnow h hne
    go_enter Try.func9, Try.ntmps9
    go_wp2_with (first
      | ((with_reducible show wpList _ _ _ (⟨some 4, _, _, _, _, _⟩ :: _) _ _); refine wpList_box_ino rfl _ rfl HO.out rfl ?_; intro w1 hr1 hb1 hlt1)
      | ((with_reducible show wpList _ _ _ (⟨some 5, _, _, _, _, _⟩ :: _) _ _); refine wpList_box_ino rfl _ rfl HN.out rfl ?_; intro w2 hr2 hb2 hlt2)
      | ((with_reducible show wpList _ _ _ (⟨some 8, _, _, _, _, _⟩ :: _) _ _); refine wpList_alloc_ino rfl rfl ?_; intro w3 hr3 hb3 hlt3)
      | ((with_reducible show wpList _ _ _ (⟨some 11, _, _, _, _, _⟩ :: _) _ _); refine wpList_alloc_ino rfl rfl ?_; intro w4 hr4 hb4 hlt4; have HS := Lib.hid (St.start hr1 hb1 hlt1 hr2 hb2 hlt2 hr3 hb3 hlt3 hr4 hb4 hlt4); clear hr1 hb1 hlt1 hr2 hb2 hlt2 hr3 hb3 hlt3 hr4 hb4 hlt4)
      | ((with_reducible show wpList _ _ _ (⟨some 23, _, _, _, _, _⟩ :: _) _ _); refine wpList_load_ino rfl _ rfl HS.out.r4 HO.out rfl ?_)
      | (go_at_call 23; refine (HCK.out _).mono ?_; rintro e w5 ⟨rfl, hb5⟩; replace HS := Lib.hid (HS.out.below hb5 HS.out.o4); clear hb5)
      | ((with_reducible show wpList _ _ _ (⟨some 33, _, _, _, _, _⟩ :: _) _ _); refine wpList_load_ino rfl _ rfl HS.out.r11 zIno_len rfl ?_)
      | ((with_reducible show wpList _ _ _ (⟨none, Op.store 24 (.tmp 8) _, _, _, _, _⟩ :: _) _ _); refine wpList_store_ino rfl _ _ rfl HS.out.r8 zIno_len zIno_len rfl rfl ?_; intro w9 hr9 ho9))
    (try simp only [Exit.inBlock, Exit.then])
    refine bodyPost_ret (results_ino3 rfl hr9 zIno_len _ rfl) rfl ?_
    exact nextR_none HM.out (HS.out.end8 ho9)
end Go.Proofs.Ytgfhepfikphliaa.Al
