/-
  What comes in: a slice of entries, an entry.
-/
import Derived.Test.YtifbbbphoponcaaOpen
import Derived.Test.YtifbbbphoponcaaDir0
import Derived.Deep.Slices
import Derived.Deep.Fields
import Derived.ChangeSame
import Derived.Lib.SmallJoins
namespace Go.Proofs.Ytifbbbphoponcaa.Dr
open Go.RowKit Wd Go.ChangeShapes Go.WideShapes Go.Deep Go.Joins
set_option linter.unusedVariables false
section
variable {H : Type} {enc : TypeId × Value → H} {P : Program} {W : World}

theorem open_slice_fields {base : Nat} {spare : Nat → Bool} {held : Bool} {t e : TypeId} {fs : Array Field} {fuel : Nat} {cs : List Value} {x : DataW H × List MemPlace} (ht : P.underlying t = some (.slice e)) (he : P.underlying e = some (.struct fs))
    (hone : oneCellFields P fs = true) (hC : P.cellsOf e = fs.size) (h : DataW.trod enc P W base spare held fuel t cs = some x) :
    (cs = [.slice none 0 0] ∧ x = (.nil, [])) ∨
    ∃ (a : Addr) (len cap m : Nat) (D : Nat → DataW H) (Pl : Nat → List MemPlace), cs = [.slice (some a) len cap] ∧ base ≤ a.block ∧ len ≤ cap ∧ cap ≤ maxLen ∧ m = (if spare a.block then cap else len) ∧
      x = (.slice ((List.range len).map D) ((List.range (m - len)).map fun j => D (len + j)), MemPlace.row a (m * fs.size) ++ (List.range m).flatMap Pl) ∧
      ∀ i, i < m → ∃ (ys : List (DataW H × List MemPlace)) (n : Nat), D i = .agg (ys.map (·.1)) ∧ Pl i = ys.flatMap (·.2) ∧ ys.length = fs.size ∧
        ∀ (j : Nat) (f : Field), fs[j]? = some f → ∃ (v : Value) (y : DataW H × List MemPlace), W.cell? (a.add (i * fs.size + j)) = some v ∧ ys[j]? = some y ∧ DataW.trod enc P W base spare held n f.type [v] = some y := by
  rcases open_slice ht h with h0 | ⟨a, len, cap, m, n, D, Pl, hcs, hb, hl, hm, hmm, hx, hi⟩
  · exact .inl h0
  · refine .inr ⟨a, len, cap, m, D, Pl, hcs, hb, hl, hm, hmm, by rw [hC] at hx; exact hx, fun i him => ?_⟩
    obtain ⟨cs', hc, ht'⟩ := hi i him
    rw [hC] at hc
    obtain ⟨ys, n', hn', hy, hlen, hyl, hf⟩ := DataW.trod_struct he ht'
    obtain ⟨_, hcl, hat⟩ := World.cells?_some hc
    simp only [Prod.mk.injEq] at hy
    refine ⟨ys, n', hy.1, hy.2, hyl, fun j f hj => ?_⟩
    obtain ⟨ho, hk⟩ := hone_of hone j f hj
    have hjl : j < fs.size := (Array.getElem?_eq_some_iff.1 hj).1
    have hcell := hat j hjl
    have hv : cs'[j]? = some (cs'[j]'(by omega)) := List.getElem?_eq_getElem (by omega)
    have h1 := hf j f hj
    rw [ho, hk] at h1
    have hone' : (cs'.drop j).take 1 = [cs'[j]'(by omega)] := by
      rw [List.drop_eq_getElem_cons (by omega)]
      rfl
    rw [hone'] at h1
    have hys : ys[j]? = some (ys[j]'(by omega)) := List.getElem?_eq_getElem (by omega)
    refine ⟨_, _, ?_, hys, h1.trans hys⟩
    rw [← Go.Deep.add_add, hcell, hv]

theorem open_ents {t e : TypeId} {f0 f1 : Field} {a : Option Addr} {n c : Nat} {d : DataW H} {p : List MemPlace} (ht : P.underlying t = some (.slice e)) (he : P.underlying e = some (.struct #[f0, f1]))
    (hone : oneCellFields P #[f0, f1] = true) (hC : P.cellsOf e = 2) (h0 : P.underlying f0.type = some .string) (h1 : P.underlying f1.type = some (.int .i64))
    (h : DataW.Trod enc P W 0 (fun _ => true) true t (.slice a n c) d p) :
    ∃ l : List En, n = l.length ∧ Sl W W.heap.size 2 a l.length (ecs l) ∧ l.length ≤ c ∧ (∀ x ∈ l, goodE x) ∧ Room d c := by
  obtain ⟨fuel, hf⟩ := h
  rcases open_slice_fields ht he hone hC hf with ⟨hcs, _⟩ | ⟨x, l, c', m, D, Pl, hcs, _, hl, hm, hmm, hd, hcell⟩
  · simp [Value.cells] at hcs
    obtain ⟨rfl, rfl, rfl⟩ := hcs
    exact ⟨[], rfl, Sl.nil _, by simp, by simp, .inl rfl⟩
  · simp [Value.cells] at hcs
    obtain ⟨rfl, rfl, rfl⟩ := hcs
    simp only [if_true] at hmm
    subst hmm
    have hE : ∀ i, i < n → ∃ e : En, W.cell? (x.add (i * 2)) = some (.string e.1) ∧ W.cell? (x.add (i * 2 + 1)) = some (.int .i64 e.2) ∧ goodE e := by
      intro i hi
      obtain ⟨ys, k, _, _, _, hf⟩ := hcell i (by omega)
      obtain ⟨u0, y0, c0, _, t0⟩ := hf 0 f0 rfl
      obtain ⟨u1, y1, c1, _, t1⟩ := hf 1 f1 rfl
      obtain ⟨s, hs, _, hs2⟩ := DataW.trod_string h0 t0
      obtain ⟨z, hz, _, hz2⟩ := DataW.trod_int h1 t1
      injection hs with hs
      injection hz with hz
      subst hs; subst hz
      have hb := i64_bd hz2
      exact ⟨(s, z), c0, c1, by simpa [maxLen] using hs2, hb.1, hb.2⟩
    obtain ⟨f, hF⟩ : ∃ f : Nat → En, ∀ i, i < n → W.cell? (x.add (i * 2)) = some (.string (f i).1) ∧ W.cell? (x.add (i * 2 + 1)) = some (.int .i64 (f i).2) ∧ goodE (f i) :=
      ⟨fun i => if h : i < n then (hE i h).choose else (ByteArray.empty, 0), fun i hi => by
        simp only [dif_pos hi]
        exact (hE i hi).choose_spec⟩
    have hL : ((List.range n).map f).length = n := by simp
    refine ⟨(List.range n).map f, hL.symm, ⟨by rw [ecs_len], fun hn => ⟨x, rfl, ?_, fun j u hu => ?_⟩⟩, by rw [hL]; exact hl, fun e he => ?_, .inr ⟨_, _, (Prod.mk.injEq _ _ _ _ ▸ hd).1, ?_⟩⟩
    · rw [hL] at hn
      have := World.block_lt_of_cell? W _ (hF 0 hn).1
      rwa [add_block] at this
    · obtain ⟨i, e, hi, hj⟩ := ecs_get _ _ _ hu
      have hin : i < n := by
        have := (List.getElem?_eq_some_iff.1 hi).1
        omega
      rw [List.getElem?_map, List.getElem?_range hin] at hi
      simp at hi
      subst hi
      rcases hj with ⟨rfl, rfl⟩ | ⟨rfl, rfl⟩
      · exact (hF i hin).1
      · exact (hF i hin).2.1
    · obtain ⟨i, hi, rfl⟩ := List.mem_map.1 he
      exact (hF i (List.mem_range.1 hi)).2.2
    · simp
      omega
theorem open_ent {r : Reach} {b0 : Nat} {t : TypeId} {f0 f1 : Field} {v : Value} {d : DataW H} {p : List MemPlace} {base : Nat} {spare : Nat → Bool} {held : Bool} (hs : P.underlying t = some (.struct #[f0, f1])) (hone : oneCellFields P #[f0, f1] = true) (hC : P.cellsOf t = 2)
    (h0 : P.underlying f0.type = some .string) (h1 : P.underlying f1.type = some (.int .i64)) (hv : Value.okWide P W r b0 t v) (h : DataW.Trod enc P W base spare held t v d p) : ∃ x : En, v = ev x ∧ goodE x := by
  obtain ⟨v0, v1, y0, y1, n, rfl, _, _, t0, t1⟩ := open_agg2 hs hone hC hv h
  obtain ⟨s, hs, _, hs2⟩ := DataW.trod_string h0 t0
  obtain ⟨z, hz, _, hz2⟩ := DataW.trod_int h1 t1
  injection hs with hs
  injection hz with hz
  subst hs; subst hz
  have hb := i64_bd hz2
  exact ⟨(s, z), rfl, by simpa [maxLen] using hs2, hb.1, hb.2⟩
end
end Go.Proofs.Ytifbbbphoponcaa.Dr
