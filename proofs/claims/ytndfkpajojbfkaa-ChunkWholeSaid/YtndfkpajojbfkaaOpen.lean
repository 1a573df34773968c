/-
  What comes in, as words of 'Words': slices of bytes, of ints; how long they may be.
-/
import Derived.Test.YtndfkpajojbfkaaWords
import Derived.ProofKit
import Derived.OpenShut
import Derived.SizedLaws
import Derived.ShutString
import Derived.ChangeOld
namespace Go.Proofs.Ytndfkpajojbfkaa.Wd
open Go.RowKit Go.ChangeShapes Go.WideShapes
set_option linter.unusedVariables false

theorem i64_bd {z : Int} (h : (Lit.int .i64 z).wf = true) : -9223372036854775808 ≤ z ∧ z ≤ 9223372036854775807 := by
  simpa [Lit.wf, IntKind.min, IntKind.max, IntKind.signed, IntKind.bits] using h
theorem u8_bd {z : Int} (h : (Lit.int .u8 z).wf = true) : 0 ≤ z ∧ z ≤ 255 := by
  simpa [Lit.wf, IntKind.min, IntKind.max, IntKind.signed, IntKind.bits] using h

section
variable {H : Type} {enc : TypeId × Value → H} {P : Program} {W : World}

/-- how a slice's datum tells its room -/
def Room (d : DataW H) (c : Nat) : Prop := c = 0 ∨ ∃ elems spare, d = .slice elems spare ∧ elems.length + spare.length = c

theorem Room.reach {d : DataW H} {c : Nat} (h : Room d c) {ts : List TypeId} {ds : List (DataW H)} (hsz : (DataW.weightsEach P ts ds).all (· ≤ reachBytes) = true) {j : Nat} {t e : TypeId} {k : Nat}
    (ht : ts[j]? = some t) (hd : ds[j]? = some d) (hu : P.underlying t = some (.slice e)) (hk : P.bytesOf e = k) : c * k ≤ 140737488351232 := by
  rcases h with rfl | ⟨elems, spare, rfl, rfl⟩
  · simp
  · have := sized_slice hsz ht hd hu
    rw [hk] at this
    exact this

theorem open_row {t e : TypeId} {k : IntKind} {a : Option Addr} {n c : Nat} {d : DataW H} {p : List MemPlace} (ht : P.underlying t = some (.slice e)) (he : P.underlying e = some (.int k)) (hc : P.cellsOf e = 1)
    (h : DataW.Trod enc P W 0 (fun _ => true) true t (.slice a n c) d p) :
    ∃ zs : List Int, zs.length = n ∧ Sl W W.heap.size 1 a n (zs.map (Value.int k)) ∧ (∀ z ∈ zs, (Lit.int k z).wf = true) ∧ n ≤ c ∧ c ≤ maxLen ∧ Room d c := by
  obtain ⟨fuel, hf⟩ := h
  rcases open_ints ht he hc hf with ⟨hcs, _⟩ | ⟨x, l, c', zs, hcs, _, hl, hm, hz, hd, hcell, hwz⟩
  · simp [Value.cells] at hcs
    obtain ⟨rfl, rfl, rfl⟩ := hcs
    exact ⟨[], rfl, Sl.nil _, by simp, Nat.le_refl _, by simp [maxLen], .inl rfl⟩
  · simp [Value.cells] at hcs
    obtain ⟨rfl, rfl, rfl⟩ := hcs
    have hz' : zs.length = c := by simpa using hz
    have htk : (zs.take n).length = n := by rw [List.length_take]; omega
    refine ⟨zs.take n, htk, ⟨by rw [List.length_map, htk, Nat.mul_one], fun hn => ⟨x, rfl, ?_, fun j u hu => ?_⟩⟩, fun z hz => hwz z (List.mem_of_mem_take hz), hl, hm, .inr ⟨_, _, (Prod.mk.injEq _ _ _ _ ▸ hd).1, ?_⟩⟩
    · have h0 := hcell 0 (by omega)
      have := World.block_lt_of_cell? W _ h0
      rwa [add_block] at this
    · rw [List.map_take, List.getElem?_take] at hu
      split at hu
      · rename_i hj
        rw [List.getElem?_map, List.getElem?_eq_getElem (by omega)] at hu
        rw [hcell j (by omega), ← hu]
        simp [List.getD_eq_getElem?_getD, List.getElem?_eq_getElem (show j < zs.length by omega)]
      · cases hu
    · simp [lits]
      omega

theorem open_byte_row {t e : TypeId} {a : Option Addr} {n c : Nat} {d : DataW H} {p : List MemPlace} (ht : P.underlying t = some (.slice e)) (he : P.underlying e = some (.int .u8)) (hc : P.cellsOf e = 1)
    (h : DataW.Trod enc P W 0 (fun _ => true) true t (.slice a n c) d p) :
    ∃ l : List UInt8, n = l.length ∧ Sl W W.heap.size 1 a l.length (l.map bv) ∧ l.length ≤ c ∧ Room d c := by
  obtain ⟨zs, hn, hs, hw, h1, h2, h3⟩ := open_row ht he hc h
  have hl : zs.map (Value.int .u8) = (zs.map fun z => UInt8.ofNat z.toNat).map bv := by
    rw [List.map_map]
    refine List.map_congr_left fun z hz => ?_
    have := u8_bd (hw z hz)
    exact (bv_of z this.1 (by omega)).symm
  refine ⟨zs.map fun z => UInt8.ofNat z.toNat, by simp [hn], ?_, by simpa [hn] using h1, h3⟩
  rw [← hl, List.length_map, hn]
  exact hs

theorem open_int_row {t e : TypeId} {a : Option Addr} {n c : Nat} {d : DataW H} {p : List MemPlace} (ht : P.underlying t = some (.slice e)) (he : P.underlying e = some (.int .i64)) (hc : P.cellsOf e = 1)
    (h : DataW.Trod enc P W 0 (fun _ => true) true t (.slice a n c) d p) :
    ∃ zs : List Int, n = zs.length ∧ Sl W W.heap.size 1 a zs.length (zs.map (Value.int .i64)) ∧ zs.length ≤ c ∧ (∀ z ∈ zs, -9223372036854775808 ≤ z ∧ z ≤ 9223372036854775807) ∧ Room d c := by
  obtain ⟨zs, rfl, hs, hw, h1, h2, h3⟩ := open_row ht he hc h
  exact ⟨zs, rfl, hs, h1, fun z hz => i64_bd (hw z hz), h3⟩
end
end Go.Proofs.Ytndfkpajojbfkaa.Wd
