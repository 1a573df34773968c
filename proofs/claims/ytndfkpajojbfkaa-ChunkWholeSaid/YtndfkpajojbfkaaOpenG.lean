/-
  What comes in: a slice of slices of bytes.
-/
import Derived.Test.YtndfkpajojbfkaaOpen
import Derived.Test.YtndfkpajojbfkaaWhole1
import Derived.Deep.Matrix
namespace Go.Proofs.Ytndfkpajojbfkaa.Ck
open Go.RowKit Go.ChangeShapes Go.WideShapes Go.Deep Wd
set_option linter.unusedVariables false
section
variable {H : Type} {enc : TypeId × Value → H} {P : Program} {W : World}
theorem open_byte_rows {t e q : TypeId} {a : Option Addr} {n c : Nat} {d : DataW H} {p : List MemPlace} (ht : P.underlying t = some (.slice e)) (he : P.underlying e = some (.slice q)) (hq : P.underlying q = some (.int .u8)) (ce : P.cellsOf e = 1) (cq : P.cellsOf q = 1)
    (h : DataW.Trod enc P W 0 (fun _ => true) true t (.slice a n c) d p) :
    ∃ rows : List (List UInt8), n = rows.length ∧ Rows2 W a rows ∧ rows.length ≤ c ∧ Room d c := by
  obtain ⟨fuel, hf⟩ := h
  rcases open_int_rows ht he hq ce cq hf with ⟨hcs, _⟩ | ⟨x, l, c', A, L, C, Z, hcs, _, hl, hm, hd, hcell⟩
  · simp [Value.cells] at hcs
    obtain ⟨rfl, rfl, rfl⟩ := hcs
    exact ⟨[], rfl, ⟨[], Sl.nil _, fun i L h => by simp at h⟩, by simp, .inl rfl⟩
  · simp [Value.cells] at hcs
    obtain ⟨rfl, rfl, rfl⟩ := hcs
    have hrl : ((List.range n).map fun r => ((Z r).take (L r)).map fun z => UInt8.ofNat z.toNat).length = n := by simp
    refine ⟨(List.range n).map fun r => ((Z r).take (L r)).map fun z => UInt8.ofNat z.toNat, hrl.symm, ⟨(List.range n).map fun r => .slice (A r) (L r) (C r), ⟨by simp, fun hn => ⟨x, rfl, ?_, fun j u hu => ?_⟩⟩, fun i R hR => ?_⟩, by rw [hrl]; exact hl, .inr ⟨_, _, (Prod.mk.injEq _ _ _ _ ▸ hd).1, ?_⟩⟩
    · rw [hrl] at hn
      have h0 := (hcell 0 (by omega)).1
      have := World.block_lt_of_cell? W _ h0
      rwa [add_block] at this
    · rw [List.getElem?_map] at hu
      by_cases hj : j < n
      · rw [List.getElem?_range hj] at hu
        rw [(hcell j (by omega)).1, ← hu]
        rfl
      · rw [List.getElem?_eq_none (by simpa using hj)] at hu
        cases hu
    · rw [List.getElem?_map] at hR
      by_cases hj : i < n
      · rw [List.getElem?_range hj] at hR
        injection hR with hR
        obtain ⟨h1, h2, h3, h4, h5, h6, h7⟩ := hcell i (by omega)
        have hlen : R.length = L i := by rw [← hR, List.length_map, List.length_take]; omega
        refine ⟨A i, C i, by rw [List.getElem?_map, List.getElem?_range hj, hlen]; rfl, ?_, by omega, h3⟩
        refine ⟨by rw [List.length_map, Nat.mul_one], fun hn => ?_⟩
        cases hA : A i with
        | none =>
          have := h6 hA
          omega
        | some a' =>
          obtain ⟨_, h8⟩ := h7 a' hA
          refine ⟨a', rfl, ?_, fun j u hu => ?_⟩
          · have h0 := h8 0 (by omega)
            have := World.block_lt_of_cell? W _ h0
            rwa [add_block] at this
          · rw [← hR, List.getElem?_map, List.getElem?_map, List.getElem?_take] at hu
            split at hu
            · rename_i hjl
              rw [List.getElem?_eq_getElem (show j < (Z i).length by omega)] at hu
              injection hu with hu
              have hw := u8_bd (h5 _ (List.getElem_mem (show j < (Z i).length by omega)))
              rw [bv_of _ hw.1 (by omega)] at hu
              rw [h8 j (by omega), ← hu, List.getD_eq_getElem?_getD, List.getElem?_eq_getElem (show j < (Z i).length by omega)]
              rfl
            · cases hu
      · rw [List.getElem?_eq_none (by simpa using hj)] at hR
        cases hR
    · simp
      omega
end
end Go.Proofs.Ytndfkpajojbfkaa.Ck
