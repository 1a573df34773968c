/-
  An inode as a list of 37 numbers; when two are the same; the small test 'in'.
-/
import Derived.Test.YtgfhepfikphliaaWords
import Derived.Test.YtgfhepfikphliaaRows
namespace Go.Proofs.Ytgfhepfikphliaa.In
open Go.RowKit Wd
set_option linter.unusedVariables false

section
variable {P : Program}
def ints (xs : List Int) : Array Value := (xs.map (Value.int .i64)).toArray
theorem ints_at (xs : List Int) (i : Nat) (h : i < xs.length) : (ints xs)[i]? = some (.int .i64 xs[i]) := by
  simp [ints, List.getElem?_eq_getElem h]

theorem run_equalIn_arr (w : World) (d : Nat) (t e : TypeId) (len : Nat) (k : IntKind) (i : TypeInfo) (ht : P.underlying t = some (.array len e)) (he : P.underlying e = some (.int k)) (hi : P.info? e = some i) (hs : i.size = 1)
    (xs ys : List Int) (hx : xs.length = len) (hy : ys.length = len) :
    (Op.equalIn (d + 2) t (.agg (ints xs)) (.agg (ints ys))).run P w = .ok (xs == ys) w := by
  rw [Op.equalIn.eq_def]
  simp only [Sem.run_bind, run_underlying ht, Result.andThen_ok, sizeOf, typeInfo]
  simp only [run_program, Result.andThen_ok, hi, Sem.run_pure, hs, Nat.mul_one]
  have hb : ∀ (j : Nat) (hjx : j < xs.length) (hjy : j < ys.length), ((do
      let p ← part e (ints xs) j
      let q ← part e (ints ys) j
      let r ← Op.equalIn (d + 1) e p q
      if (!r) = true then pure (ForInStep.done (some false, ())) else pure (ForInStep.yield (none, ())) : Sem (ForInStep (Option Bool × Unit)))).run P w =
      .ok (if xs[j] == ys[j] then ForInStep.yield (none, ()) else ForInStep.done (some false, ())) w := by
    intro j hjx hjy
    have h1 := ints_at xs j hjx
    have h2 := ints_at ys j hjy
    have hag : (isAgg e).run P w = .ok false w := by simp [isAgg, run_underlying he]
    simp only [part, Sem.run_bind, hag, Result.andThen_ok, Bool.false_eq_true, if_false, h1, h2, Sem.run_pure, run_equalIn_int w d e .i64 k _ _ he]
    cases hxy : xs[j] == ys[j] <;> simp
  have key : ∀ (m k0 : Nat), k0 + m = len → (forIn (List.range' k0 m) ((none, ()) : Option Bool × Unit) fun j _ => (do
      let p ← part e (ints xs) j
      let q ← part e (ints ys) j
      let r ← Op.equalIn (d + 1) e p q
      if (!r) = true then pure (ForInStep.done (some false, ())) else pure (ForInStep.yield (none, ())) : Sem (ForInStep (Option Bool × Unit)))).run P w =
      .ok (if xs.drop k0 == ys.drop k0 then (none, ()) else (some false, ())) w := by
    intro m
    induction m with
    | zero =>
      intro k0 hk
      rw [List.drop_of_length_le (by omega), List.drop_of_length_le (by omega)]
      simp
    | succ m ih =>
      intro k0 hk
      rw [List.range'_succ, List.forIn_cons, Sem.run_bind, hb k0 (by omega) (by omega), List.drop_eq_getElem_cons (show k0 < xs.length by omega), List.drop_eq_getElem_cons (show k0 < ys.length by omega)]
      rw [show (xs[k0] :: List.drop (k0 + 1) xs == ys[k0] :: List.drop (k0 + 1) ys) = (xs[k0] == ys[k0] && List.drop (k0 + 1) xs == List.drop (k0 + 1) ys) from rfl]
      simp only [Result.andThen_ok]
      cases hxy : xs[k0] == ys[k0]
      · simp only [Bool.false_eq_true, if_false, Bool.false_and, Sem.run_pure]
      · simp only [if_true, Bool.true_and]
        exact ih (k0 + 1) (by omega)
  have hr := key len 0 (by omega)
  rw [Std.Legacy.Range.forIn_eq_forIn_range']
  have hsz : ([:len] : Std.Legacy.Range).size = len := by simp [Std.Legacy.Range.size]
  rw [hsz]
  show ((Sem.run P (forIn (List.range' 0 len) _ _) w).andThen _) = _
  rw [hr]
  simp only [List.drop_zero, Result.andThen_ok]
  cases hxy : xs == ys <;> simp
end

theorem run_sizeOf (P : Program) (w : World) (t : TypeId) (n : Nat) (h : (P.info? t).map (·.size) = some n) : (sizeOf t).run P w = .ok n w := by
  cases hi : P.info? t with
  | none => rw [hi] at h; cases h
  | some i =>
    rw [hi] at h
    injection h with h
    subst h
    simp [sizeOf, typeInfo, hi]

theorem eqField_step {P : Program} {w : World} {d : Nat} {xs ys : Array Value} {f : Field} {fs : List Field} (hn : f.name ≠ "_") {a b : Value} (ha : (part f.type xs f.offset).run P w = .ok a w) (hb : (part f.type ys f.offset).run P w = .ok b w)
    {r c : Bool} (he : (Op.equalIn d f.type a b).run P w = .ok r w) (hc : (Op.eqFields d xs ys fs).run P w = .ok c w) : (Op.eqFields d xs ys (f :: fs)).run P w = .ok (r && c) w := by
  unfold Op.eqFields
  rw [if_pos hn]
  simp only [Sem.run_bind, ha, hb, he, Result.andThen_ok]
  cases r
  · simp
  · simp [hc]

/-- an inode's value: its five numbers, its 32 pointers -/
def inoV (xs : List Int) : Value := .agg (ints xs)
theorem run_eql_ino (w : World) (xs ys : List Int) (hx : xs.length = 37) (hy : ys.length = 37) (d : Nat) :
    (Op.equalIn (d + 3) 24 (.agg (ints xs)) (.agg (ints ys))).run Try.prog w = .ok (xs == ys) w := by
  have hfs : Try.prog.fieldsOf 24 = #[{ name := "Kind", type := 3, offset := 0, embedded := false, tag := "", pkgPath := "", byteOffset := 0 },
        { name := "Size", type := 3, offset := 1, embedded := false, tag := "", pkgPath := "", byteOffset := 8 },
        { name := "Links", type := 3, offset := 2, embedded := false, tag := "", pkgPath := "", byteOffset := 16 },
        { name := "Object", type := 3, offset := 3, embedded := false, tag := "", pkgPath := "", byteOffset := 24 },
        { name := "Node", type := 3, offset := 4, embedded := false, tag := "", pkgPath := "", byteOffset := 32 },
        { name := "Ptrs", type := 22, offset := 5, embedded := false, tag := "", pkgPath := "", byteOffset := 40 }] := by
    unfold Program.fieldsOf
    rw [Try.underlying24]
  rw [run_equalIn_struct w (d + 2) _ _ _ (by rw [hfs]; exact Try.underlying24) (by kernel_rfl), hfs]
  obtain ⟨i0, hi, hz0, hz1, hz2⟩ := info_parts (show (Try.prog.info? 3).map (fun i => (i.zero, i.size, i.bytes)) = some (some (.int .i64 0), 1, 8) by kernel_rfl)
  have h32 := run_sizeOf Try.prog w 22 32 (by kernel_rfl)
  have hag : (isAgg 22).run Try.prog w = .ok true w := by simp [isAgg, run_underlying Try.underlying22]
  have hai : (isAgg 3).run Try.prog w = .ok false w := by simp [isAgg, run_underlying Try.underlying3]
  match xs, hx, ys, hy with
  | x0 :: x1 :: x2 :: x3 :: x4 :: xr, hx, y0 :: y1 :: y2 :: y3 :: y4 :: yr, hy =>
    have hxl : xr.length = 32 := by simpa using hx
    have hyl : yr.length = 32 := by simpa using hy
    have ha := run_equalIn_arr w d 22 3 32 .i64 i0 Try.underlying22 Try.underlying3 hi hz1 xr yr hxl hyl
    have ext : ∀ (a b c e f : Int) (r : List Int), r.length = 32 → (ints (a :: b :: c :: e :: f :: r)).extract 5 37 = ints r := by
      intro a b c e f r hr
      apply Array.ext'
      simp [ints]
      rw [List.take_of_length_le (by simp [hr])]
    have ex := ext x0 x1 x2 x3 x4 xr hxl
    have ey := ext y0 y1 y2 y3 y4 yr hyl
    have hint : ∀ a b : Int, (Op.equalIn (d + 2) 3 (.int .i64 a) (.int .i64 b)).run Try.prog w = .ok (a == b) w := fun a b => run_equalIn_int w (d + 1) _ _ .i64 _ _ Try.underlying3
    have p0 : ∀ (xs : List Int) (j : Nat) (h : j < xs.length), (part 3 (ints xs) j).run Try.prog w = .ok (.int .i64 xs[j]) w := fun xs j h => by
      simp [part, hai, ints_at xs j h]
    have p5 : ∀ A : Array Value, (part 22 A 5).run Try.prog w = .ok (.agg (A.extract 5 37)) w := fun A => by
      have h := h32
      simp [part, hag] at h ⊢
    have px0 := p0 (x0 :: x1 :: x2 :: x3 :: x4 :: xr) 0 (by omega)
    have px1 := p0 (x0 :: x1 :: x2 :: x3 :: x4 :: xr) 1 (by omega)
    have px2 := p0 (x0 :: x1 :: x2 :: x3 :: x4 :: xr) 2 (by omega)
    have px3 := p0 (x0 :: x1 :: x2 :: x3 :: x4 :: xr) 3 (by omega)
    have px4 := p0 (x0 :: x1 :: x2 :: x3 :: x4 :: xr) 4 (by omega)
    have py0 := p0 (y0 :: y1 :: y2 :: y3 :: y4 :: yr) 0 (by omega)
    have py1 := p0 (y0 :: y1 :: y2 :: y3 :: y4 :: yr) 1 (by omega)
    have py2 := p0 (y0 :: y1 :: y2 :: y3 :: y4 :: yr) 2 (by omega)
    have py3 := p0 (y0 :: y1 :: y2 :: y3 :: y4 :: yr) 3 (by omega)
    have py4 := p0 (y0 :: y1 :: y2 :: y3 :: y4 :: yr) 4 (by omega)
    simp only [List.getElem_cons_zero, List.getElem_cons_succ] at px0 px1 px2 px3 px4 py0 py1 py2 py3 py4
    rw [show (x0 :: x1 :: x2 :: x3 :: x4 :: xr == y0 :: y1 :: y2 :: y3 :: y4 :: yr) = (x0 == y0 && (x1 == y1 && (x2 == y2 && (x3 == y3 && (x4 == y4 && xr == yr))))) from rfl]
    have p5x := p5 (ints (x0 :: x1 :: x2 :: x3 :: x4 :: xr))
    have p5y := p5 (ints (y0 :: y1 :: y2 :: y3 :: y4 :: yr))
    rw [ex] at p5x
    rw [ey] at p5y
    generalize ints (x0 :: x1 :: x2 :: x3 :: x4 :: xr) = A at *
    generalize ints (y0 :: y1 :: y2 :: y3 :: y4 :: yr) = B at *
    have hnil : (Op.eqFields (d + 2) A B []).run Try.prog w = .ok true w := by simp [Op.eqFields]
    have h5 := eqField_step (f := { name := "Ptrs", type := 22, offset := 5, embedded := false, tag := "", pkgPath := "", byteOffset := 40 }) (by decide) p5x p5y ha hnil
    have h4 := eqField_step (f := { name := "Node", type := 3, offset := 4, embedded := false, tag := "", pkgPath := "", byteOffset := 32 }) (by decide) px4 py4 (hint x4 y4) h5
    have h3 := eqField_step (f := { name := "Object", type := 3, offset := 3, embedded := false, tag := "", pkgPath := "", byteOffset := 24 }) (by decide) px3 py3 (hint x3 y3) h4
    have h2 := eqField_step (f := { name := "Links", type := 3, offset := 2, embedded := false, tag := "", pkgPath := "", byteOffset := 16 }) (by decide) px2 py2 (hint x2 y2) h3
    have h1 := eqField_step (f := { name := "Size", type := 3, offset := 1, embedded := false, tag := "", pkgPath := "", byteOffset := 8 }) (by decide) px1 py1 (hint x1 y1) h2
    have h0 := eqField_step (f := { name := "Kind", type := 3, offset := 0, embedded := false, tag := "", pkgPath := "", byteOffset := 0 }) (by decide) px0 py0 (hint x0 y0) h1
    rw [Bool.and_true] at h0
    exact h0
end Go.Proofs.Ytgfhepfikphliaa.In
