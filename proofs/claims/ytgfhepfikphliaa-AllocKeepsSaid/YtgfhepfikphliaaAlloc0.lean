/-
  alloc: small contracts; the plain law of Next; rows of pointers within an inode's variable.
-/
import Derived.Test.YtgfhepfikphliaaRowRely
import Derived.Test.YtgfhepfikphliaaInode5
import Derived.Test.YtgfhepfikphliaaOpen
namespace Go.Proofs.Ytgfhepfikphliaa.Al
open Go.RowKit Wd In
set_option linter.unusedVariables false

def chkL : List Int → Bool
  | k0 :: s0 :: l0 :: o0 :: n0 :: ps => chk k0 s0 l0 o0 n0 ps
  | _ => false
theorem five {xs : List Int} (h : xs.length = 37) : ∃ k0 s0 l0 o0 n0 ps, xs = k0 :: s0 :: l0 :: o0 :: n0 :: ps ∧ ps.length = 32 := by
  match xs, h with
  | k0 :: s0 :: l0 :: o0 :: n0 :: ps, h => exact ⟨k0, s0, l0, o0, n0, ps, rfl, by simpa using h⟩
theorem checkL {xs : List Int} (h : xs.length = 37) (w : World) : Calls Try.prog 23 #[.agg (ints xs)] w fun e w' => e = .returned (.bool (chkL xs)) ∧ Below w.heap.size w w' := by
  obtain ⟨k0, s0, l0, o0, n0, ps, rfl, hps⟩ := five h
  exact check_any k0 s0 l0 o0 n0 ps hps w
theorem rcheckL {xs : List Int} (h : xs.length = 37) (w : World) : Calls Try.prog 13 #[.agg (ints xs)] w fun e w' => e = .returned (.bool (chkL xs)) ∧ Below w.heap.size w w' := by
  obtain ⟨k0, s0, l0, o0, n0, ps, rfl, hps⟩ := five h
  exact rcheck_any k0 s0 l0 o0 n0 ps hps w

theorem okAt_bd {d : Bool} {s : Int} {ps : List Int} {k : Nat} {p : Int} (h : okAt d s ps k = true) (hp : ps[k]? = some p) : 0 ≤ p ∧ p ≤ 1023 := by
  by_cases h0 : p = 0
  · subst h0; omega
  · rw [ok_ptr hp h0] at h
    simp [inB] at h
    omega
theorem chk_bd {k0 s0 l0 o0 n0 : Int} {ps : List Int} (hps : ps.length = 32) (h : chk k0 s0 l0 o0 n0 ps = true) : (0 ≤ k0 ∧ k0 ≤ 2) ∧ (0 ≤ s0 ∧ s0 ≤ 4096) ∧ (0 ≤ l0 ∧ l0 ≤ 10000) ∧ (0 ≤ o0 ∧ o0 ≤ 16777215) ∧ (0 ≤ n0 ∧ n0 ≤ 16777215) ∧ ∀ (k : Nat) (p : Int), ps[k]? = some p → 0 ≤ p ∧ p ≤ 1023 := by
  unfold chk at h
  by_cases h0 : k0 = 0
  · rw [if_pos h0] at h
    have h := eq_of_beq h
    simp only [List.replicate_succ, List.cons.injEq] at h
    obtain ⟨rfl, rfl, rfl, rfl, rfl, hp⟩ := h
    refine ⟨by omega, by omega, by omega, by omega, by omega, ?_⟩
    intro k p hk
    have hm := List.mem_of_getElem? hk
    have : p = 0 := by
      subst hp
      simp at hm
      exact hm
    omega
  · rw [if_neg h0] at h
    simp only [hdr, inB, Bool.and_eq_true, decide_eq_true_eq, List.all_eq_true, List.mem_range] at h
    obtain ⟨⟨⟨⟨⟨⟨h1, h2⟩, h3⟩, h4⟩, h5⟩, h6⟩, h7⟩ := h
    refine ⟨by omega, by omega, by omega, by omega, by omega, ?_⟩
    intro k p hk
    have hlt : k < 32 := by rw [← hps]; exact (List.getElem?_eq_some_iff.1 hk).1
    exact okAt_bd (h7 k hlt) hk

def blocksN (s : Int) : Int := if s ≤ 0 then 0 else (s - 1) / 128 + 1
theorem blocksN_bd (s : Int) (h : s ≤ 9223372036854775807) : 0 ≤ blocksN s ∧ blocksN s ≤ 72057594037927936 := by unfold blocksN; split <;> omega
set_option maxHeartbeats 400000 in
theorem blocks_any (s : Int) (w : World) (h0 : -9223372036854775808 ≤ s) (h1 : s ≤ 9223372036854775807) : Calls Try.prog 24 #[.int .i64 s] w fun e w' => e = .returned (.int .i64 (blocksN s)) ∧ w = w' := by
  by_cases h : s ≤ 0
  · have e : blocksN s = 0 := if_pos h
    have HE := Lib.hid e
    clear e
    go_enter Try.func24, Try.ntmps24
    go_wp2
    go_ret
    rw [HE.out]
    exact ⟨rfl, rfl⟩
  · have e : blocksN s = (s - 1) / 128 + 1 := if_neg h
    have HE := Lib.hid e
    clear e
    go_enter Try.func24, Try.ntmps24
    go_wp2
    go_ret
    rw [HE.out]
    exact ⟨rfl, rfl⟩
set_option maxHeartbeats 400000 in
theorem rblocks_any (s : Int) (w : World) (h0 : -9223372036854775808 ≤ s) (h1 : s ≤ 9223372036854775807) : Calls Try.prog 25 #[.int .i64 s] w fun e w' => e = .returned (.int .i64 (blocksN s)) ∧ w = w' := by
  by_cases h : s ≤ 0
  · have e : blocksN s = 0 := if_pos h
    have HE := Lib.hid e
    clear e
    go_enter Try.func25, Try.ntmps25
    go_wp2
    go_ret
    rw [HE.out]
    exact ⟨rfl, rfl⟩
  · have e : blocksN s = (s - 1) / 128 + 1 := if_neg h
    have HE := Lib.hid e
    clear e
    by_cases hr : 0 < s % 128
    · have HQ : Hid (s / 128 + 1 = (s - 1) / 128 + 1) := by show _ = _; omega
      go_enter Try.func25, Try.ntmps25
      go_wp2
      go_ret
      rw [HE.out, ← HQ.out]
      exact ⟨rfl, rfl⟩
    · have HQ : Hid (s / 128 = (s - 1) / 128 + 1) := by show _ = _; omega
      have hr2 : s % 128 ≤ 0 := by omega
      go_enter Try.func25, Try.ntmps25
      go_wp2
      go_ret
      rw [HE.out, ← HQ.out]
      exact ⟨rfl, rfl⟩

/-! ### pointers within the row -/
theorem infoI : (Try.prog.info? 3).map (fun i => (i.zero, i.size, i.bytes)) = some (some (.int .i64 0), 1, 8) := by kernel_rfl
theorem ptrInfo : (Try.prog.info? 22).map (·.size) = some 32 := by kernel_rfl
def z32 : List Int := List.replicate 32 0
theorem z32_len : z32.length = 32 := by simp [z32]
theorem builtPtr : Try.prog.built 22 [] = some (ints z32) := by kernel_rfl
theorem IRow.tail {w : World} {b : Nat} {xs : List Int} (h : IRow w b xs) : w.rangeAt b 5 ((xs.drop 5).map (Value.int .i64)) := by
  intro j v hj
  rw [List.getElem?_map, List.getElem?_drop] at hj
  cases hx : xs[5 + j]? with
  | none => rw [hx] at hj; cases hj
  | some x =>
    rw [hx] at hj
    injection hj with hj
    subst hj
    exact h.cell _ x hx
theorem IRow.there5 {w : World} {b : Nat} {xs : List Int} (h : IRow w b xs) (hl : xs.length = 37) : w.there b 5 32 := by
  intro j hj
  exact ⟨by rw [h.cell (5 + j) _ (List.getElem?_eq_getElem (by omega))]; rfl, h.fz _⟩
theorem IRow.put5 {w : World} {b : Nat} {xs ys : List Int} (h : IRow w b xs) (hl : xs.length = 37) (hly : ys.length = 32) : IRow (w.setCells b 5 (ints ys).toList) b (xs.take 5 ++ ys) := by
  refine ⟨fun i v hv => ?_, fun i => ?_⟩
  · by_cases hi : i < 5
    · rw [List.getElem?_append_left (by rw [List.length_take]; omega), List.getElem?_take, if_pos hi] at hv
      rw [World.cell?_setCells_out b _ 5 w ⟨b, i, none⟩ (fun _ _ => .inl hi)]
      exact h.cell i v hv
    · obtain ⟨j, rfl⟩ : ∃ j, i = 5 + j := ⟨i - 5, by omega⟩
      rw [List.getElem?_append_right (by rw [List.length_take]; omega), List.length_take, show 5 + j - min 5 xs.length = j by omega] at hv
      have := World.rangeAt_setCells_same w b 5 (ints ys).toList (by simpa [ints, hly] using IRow.there5 h hl) j (.int .i64 v) (by simp [ints, hv])
      exact this
  · rw [World.frozen?_setCells]
    exact h.fz i
section
variable {ops : Array Oper} {Q : Exit → Act → World → Prop} {a : Act} {w : World} {rest : List Oper} {o : Oper}
theorem wpList_load_ptrs (hw : Region.wanted o (yielded ops a.tmps) = true) (x : Operand) (ho : o.op = .load 22 x) {b : Nat} {xs : List Int} (h : IRow w b xs) (hl : xs.length = 37) (hx : a.eval x = .pointer (some ⟨b, 5, none⟩))
    (hK : wpList Try.prog ops Q rest (a.put o.dst (.agg (ints (xs.drop 5)))) w) : wpList Try.prog ops Q (o :: rest) a w := by
  refine wpList_val hw (.agg (ints (xs.drop 5))) w ?_ hK
  have := run_loadAt_mid (P := Try.prog) w b 5 22 ((xs.drop 5).map (Value.int .i64)) _ (IRow.tail h) Try.underlying22 rfl (by rw [List.length_map, List.length_drop, hl]; exact ptrInfo)
  have hi : ((xs.drop 5).map (Value.int .i64)).toArray = ints (xs.drop 5) := rfl
  rw [hi] at this
  unfold execOp
  simp only [ho, hx, this, Sem.run_bind, Sem.run_pure, Result.andThen_ok]
theorem wpList_index_ptrs (hw : Region.wanted o (yielded ops a.tmps) = true) (x y : Operand) (ho : o.op = .index 22 x y) {P : List Int} (k : Nat) (hk : k < 32) (p : Int) (hp : P[k]? = some p) (hx : a.eval x = .agg (ints P)) (hy : a.eval y = .int .i64 (k : Int))
    (hK : wpList Try.prog ops Q rest (a.put o.dst (.int .i64 p)) w) : wpList Try.prog ops Q (o :: rest) a w := by
  refine wpList_val hw (.int .i64 p) w ?_ hK
  have hs := In.run_sizeOf Try.prog w 3 1 (by kernel_rfl)
  have hai : (isAgg 3).run Try.prog w = .ok false w := by simp [isAgg, run_underlying Try.underlying3]
  have hpt : (part 3 (ints P) k).run Try.prog w = .ok (.int .i64 p) w := by
    obtain ⟨h1, h2⟩ := List.getElem?_eq_some_iff.1 hp
    simp [part, hai, In.ints_at P k h1, h2]
  clear hK
  unfold execOp
  generalize a.eval = ρ at *
  simp [ho, hx, hy, Instr.index, asIntOf, run_underlying Try.underlying22, hs, hpt]
  intro h
  omega
theorem wpList_store_ptrs (hg : o.guard = none) (x y : Operand) (ho : o.op = .store 22 x y) {b : Nat} {xs ys : List Int} (h : IRow w b xs) (hl : xs.length = 37) (hly : ys.length = 32)
    (hx : a.eval x = .pointer (some ⟨b, 5, none⟩)) (hy : a.eval y = .agg (ints ys))
    (hK : ∀ w', IRow w' b (xs.take 5 ++ ys) → Only b w w' → wpList Try.prog ops Q rest (a.put o.dst undef) w') : wpList Try.prog ops Q (o :: rest) a w :=
  wpList_store_mid hg 22 x y ho b 5 (ints ys) hx hy (by rw [ints_size, hly]; exact IRow.there5 h hl) (by rw [ints_size, hly]; exact ptrInfo) (ints_one ys) (hK _ (IRow.put5 h hl hly) (Only.setCells b _ 5 w))
theorem wpList_build_ptrs (hw : Region.wanted o (yielded ops a.tmps) = true) (ho : o.op = .build 22 #[]) (hK : wpList Try.prog ops Q rest (a.put o.dst (.agg (ints z32))) w) : wpList Try.prog ops Q (o :: rest) a w := by
  refine wpList_val hw (.agg (ints z32)) w ?_ hK
  unfold execOp
  simp [ho, run_build w _ #[] _ builtPtr]
end
/-- what a function hands back: a variable, and two slots -/
theorem results_ino3 {fn : Func} {r u v : Tmp} (h : fn.results = #[.cell r 24, .tmp u, .tmp v]) {w : World} {b : Nat} {xs : List Int} (hr : IRow w b xs) (hl : xs.length = 37) (tmps : Array Value) (hp : tmps.getD r undef = .pointer (some ⟨b, 0, none⟩)) :
    (results fn tmps).run Try.prog w = .ok (.tuple #[.agg (ints xs), tmps.getD u undef, tmps.getD v undef]) w := by
  have := run_loadVar_mid (P := Try.prog) w b 0 24 (xs.map (Value.int .i64)) _ hr.range Try.underlying24 rfl (by rw [List.length_map, hl]; exact inoInfo)
  have hi : (xs.map (Value.int .i64)).toArray = ints xs := rfl
  rw [hi] at this
  rw [Array.getD_eq_getD_getElem?] at hp
  simp [results, h, hp, asAddr, this]

/-! ### the plain law of Next -/
def goP (N : Int) : Int → List Int → List Int → List Int → Option (List Int)
  | last, k :: ps, t :: ts, xs => if k ≤ last ∨ N ≤ k ∨ 32 ≤ k then none else goP N k ps ts (xs.set (5 + k.toNat) t)
  | _, _, _, xs => some xs
theorem goP_len {N : Int} : ∀ {last : Int} {ps ts xs X : List Int}, goP N last ps ts xs = some X → X.length = xs.length
  | last, k :: ps, t :: ts, xs, X, h => by
    unfold goP at h
    split at h
    · cases h
    · rw [goP_len h, List.length_set]
  | _, [], _, xs, X, h => by unfold goP at h; injection h with h; rw [h]
  | _, _ :: _, [], xs, X, h => by unfold goP at h; injection h with h; rw [h]
/-- blocks that were an inode's, and are another's no more -/
def goneL (old X : List Int) : List Int := (old.drop 5).filter fun p => !(p == 0) && !((X.drop 5).contains p)
def hdN (now : List Int) : List Int := if now.getD 0 0 = 0 then zIno else now
def blN (now : List Int) : Int := if now.getD 0 0 = 0 then 0 else blocksN (now.getD 1 0)
def keeps (old now : List Int) : Bool := !(old.getD 0 0 == 0) && old.getD 3 0 == now.getD 3 0
def ptr1 (old now : List Int) (k : Nat) : Int := if (k : Int) < blN now ∧ keeps old now = true then old.getD (5 + k) 0 else 0
def X1 (old now : List Int) : List Int := (hdN now).take 5 ++ (List.range 32).map (ptr1 old now)
def nextM (old now ps ts : List Int) : Option (List Int × List Int) :=
  if chkL old = true ∧ ps.length = ts.length then (goP (blN now) (-1) ps ts (X1 old now)).bind fun X => if chkL X = true then some (X, goneL old X) else none else none
theorem hdN_len {now : List Int} (h : now.length = 37) : (hdN now).length = 37 := by
  unfold hdN
  split
  · exact zIno_len
  · exact h
theorem X1_len {old now : List Int} (h : now.length = 37) : (X1 old now).length = 37 := by
  simp [X1, hdN_len h]
theorem X1_at (old : List Int) {now : List Int} (h : now.length = 37) (k : Nat) (hk : k < 32) : (X1 old now)[5 + k]? = some (ptr1 old now k) := by
  unfold X1
  rw [List.getElem?_append_right (by rw [List.length_take, hdN_len h]; omega), List.length_take, hdN_len h, show 5 + k - min 5 37 = k by omega]
  simp [hk]
end Go.Proofs.Ytgfhepfikphliaa.Al
