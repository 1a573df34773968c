/-
  inode.Put of any inode; how many blocks it has.
-/
import Derived.Test.YtbhpkknimjmpjaaInode4
import Derived.Test.YtbhpkknimjmpjaaWireI
import Derived.Test.YtbhpkknimjmpjaaRely
namespace Go.Proofs.Ytbhpkknimjmpjaa.In
open Go.RowKit Wd Wi
set_option linter.unusedVariables false

def BSl (w : World) (L : List UInt8) (u : Value) : Prop := ∃ A c, u = .slice A L.length c ∧ Sl w w.heap.size 1 A L.length (L.map bv) ∧ L.length ≤ c
theorem BSl.kept {w w' : World} {L : List UInt8} {u : Value} (h : BSl w L u) (hk : Kept w w') : BSl w' L u := by
  obtain ⟨A, c, rfl, hs, hc⟩ := h
  exact ⟨A, c, rfl, hs.kept (Nat.le_refl _) hk, hc⟩
theorem put_n (A : Option Addr) (l : List UInt8) (c : Nat) (v k : Int) (n : Nat) (hn : (min k 8).toNat = n) (w : World) (hs : Sl w w.heap.size 1 A l.length (l.map bv)) (hc : l.length ≤ c) (hl : l.length + 8 ≤ 140737488355328)
    (hv : 0 ≤ v) (hv2 : v ≤ 16777215) (hk : -9223372036854775808 ≤ k := by omega) (hk2 : k ≤ 9223372036854775807 := by omega) :
    Calls Try.prog 20 #[.slice A l.length c, .int .i64 v, .int .i64 k] w (Res w (l ++ putB v n)) := by
  subst hn
  exact put_any A l c v k w hs hc hl (by omega) (by omega) hk hk2

/-- the bytes L, in a row of the call's own -/
def ResO (w : World) (L : List UInt8) (e : Ending) (w' : World) : Prop :=
  ∃ A c, e = .returned (.tuple #[.slice A L.length c, .bool true]) ∧ w'.ownsRow w.heap.size 5 1 (.slice A L.length c) L.length (L.map bv) ∧ Below w.heap.size w w'
theorem ResO.res2 {w w' : World} {L : List UInt8} {e : Ending} (h : ResO w L e w') : Res2 w L true e w' := by
  obtain ⟨A, c, rfl, h, hb⟩ := h
  exact res2_mine rfl rfl (.inr h) hb
theorem own_lower {w : World} {b b' : Nat} {e : TypeId} {size n : Nat} {v : Value} {xs : List Value} (h : w.ownsRow b e size v n xs) (hb : b' ≤ b) : w.ownsRow b' e size v n xs := by
  refine ⟨h.1, ?_⟩
  rcases h.2 with hn | ⟨g, cap, cur, hv, hg, rest⟩
  · exact .inl hn
  · exact .inr ⟨g, cap, cur, hv, by omega, rest⟩
theorem reso_mk {w w' : World} {L M : List UInt8} {A : Option Addr} {n c : Nat} (hL : L = M) (hn : n = L.length) {b : Nat} (hs : w'.ownsRow b 5 1 (.slice A L.length c) L.length (L.map bv)) (hbb : w.heap.size ≤ b) (hb : Below w.heap.size w w') :
    ResO w M (.returned (.tuple #[.slice A n c, .bool true])) w' := by
  subst hL; subst hn
  exact ⟨A, c, rfl, own_lower hs hbb, hb⟩
theorem res2_mk {w w' : World} {L M : List UInt8} {A : Option Addr} {n c : Nat} (hL : L = M) (hn : n = L.length) (hs : Sl w' w'.heap.size 1 A L.length (L.map bv)) (hc : L.length ≤ c) (hm : c ≤ maxLen) (hb : Below w.heap.size w w') :
    Res2 w M true (.returned (.tuple #[.slice A n c, .bool true])) w' := by
  subst hL; subst hn
  exact ⟨A, c, rfl, hs, hc, hm, hb⟩
def hdrB (k0 s0 l0 o0 n0 : Int) : List UInt8 := putB k0 1 ++ putB s0 2 ++ putB l0 2 ++ putB o0 3 ++ putB n0 3
def ptrB (ps : List Int) : List UInt8 := ps.flatMap fun p => putB p 2
def blk (k0 s0 l0 o0 n0 : Int) (ps : List Int) : List UInt8 := hdrB k0 s0 l0 o0 n0 ++ ptrB ps ++ List.replicate 53 0
theorem hdrB_len (k0 s0 l0 o0 n0 : Int) : (hdrB k0 s0 l0 o0 n0).length = 11 := by simp [hdrB, putB_len]
theorem ptrB_len (ps : List Int) : (ptrB ps).length = 2 * ps.length := by
  induction ps with
  | nil => rfl
  | cons p ps ih => simp only [ptrB, List.flatMap_cons, List.length_append, putB_len, List.length_cons] at *; omega
theorem ptrB_next {ps : List Int} {k : Nat} {p : Int} (h : ps[k]? = some p) : ptrB (ps.take (k + 1)) = ptrB (ps.take k) ++ putB p 2 := by
  rw [List.take_add_one, h]
  simp [ptrB]

theorem okAt_bd {d : Bool} {s : Int} {ps : List Int} {k : Nat} {p : Int} (h : okAt d s ps k = true) (hp : ps[k]? = some p) : 0 ≤ p ∧ p ≤ 1023 := by
  by_cases h0 : p = 0
  · subst h0; omega
  · rw [ok_ptr hp h0] at h
    simp [inB] at h
    omega
theorem chk_bd {k0 s0 l0 o0 n0 : Int} {ps : List Int} (hps : ps.length = 32) (h : chk k0 s0 l0 o0 n0 ps = true) : (0 ≤ k0 ∧ k0 ≤ 2) ∧ (0 ≤ s0 ∧ s0 ≤ 4096) ∧ (0 ≤ l0 ∧ l0 ≤ 10000) ∧ (0 ≤ o0 ∧ o0 ≤ 16777215) ∧ (0 ≤ n0 ∧ n0 ≤ 16777215) ∧ ∀ (k : Nat) (p : Int), ps[k]? = some p → 0 ≤ p ∧ p ≤ 1023 := by
  unfold chk at h
  by_cases h0 : k0 = 0
  · rw [if_pos h0] at h
    have h := eq_of_beq h
    simp only [List.replicate_succ, List.cons.injEq] at h
    obtain ⟨rfl, rfl, rfl, rfl, rfl, hp⟩ := h
    refine ⟨by omega, by omega, by omega, by omega, by omega, ?_⟩
    intro k p hk
    have hm := List.mem_of_getElem? hk
    have : p = 0 := by
      subst hp
      simp at hm
      exact hm
    omega
  · rw [if_neg h0] at h
    simp only [hdr, inB, Bool.and_eq_true, decide_eq_true_eq, List.all_eq_true, List.mem_range] at h
    obtain ⟨⟨⟨⟨⟨⟨h1, h2⟩, h3⟩, h4⟩, h5⟩, h6⟩, h7⟩ := h
    refine ⟨by omega, by omega, by omega, by omega, by omega, ?_⟩
    intro k p hk
    have hlt : k < 32 := by rw [← hps]; exact (List.getElem?_eq_some_iff.1 hk).1
    exact okAt_bd (h7 k hlt) hk

set_option maxRecDepth 100000 in
set_option maxHeartbeats 1600000 in
theorem iput_no (k0 s0 l0 o0 n0 : Int) (ps : List Int) (hps : ps.length = 32) (w : World) (h : chk k0 s0 l0 o0 n0 ps = false) :
    Calls Try.prog 12 #[.agg (ints (k0 :: s0 :: l0 :: o0 :: n0 :: ps))] w fun e w' => e = .returned (.tuple #[.slice none 0 0, .bool false]) ∧ Below w.heap.size w w' := by
  have hlen : (k0 :: s0 :: l0 :: o0 :: n0 :: ps).length = 37 := by simp [hps]
  have hrange : (w.alloc (.cells (ints (k0 :: s0 :: l0 :: o0 :: n0 :: ps)) 26)).rangeAt w.heap.size 0 ((k0 :: s0 :: l0 :: o0 :: n0 :: ps).map (Value.int .i64)) := by
    intro j v hj
    rw [cell_of_row _ _ _ _ _ (0, 0) (heap_alloc_new w _), Nat.zero_add]
    simpa [ints] using hj
  have hcheck := fun w' => check_any k0 s0 l0 o0 n0 ps hps w'
  rw [h] at hcheck
  generalize (k0 :: s0 :: l0 :: o0 :: n0 :: ps) = xs at *
  have HP := Lib.hid hcheck
  have HL := Lib.hid hlen
  have HR := Lib.hid hrange
  clear hcheck hlen hrange
  go_enter Try.func12, Try.ntmps12
  go_wp2_with (first
    | ((with_reducible show wpList _ _ _ (⟨some 6, _, _, _, _, _⟩ :: _) _ _); refine wpList_load_mid rfl 26 _ rfl w.heap.size 0 rfl _ _ HR.out Try.underlying26 rfl (by rw [List.length_map, HL.out]; kernel_rfl) ?_)
    | (go_at_call 14; refine (HP.out _).mono ?_; rintro e w2 ⟨rfl, hb2⟩))
  go_ret2
  exact ⟨rfl, ((Below.refl _ _).alloc (Nat.le_refl _) _).trans (hb2.mono (by simp))⟩

end Go.Proofs.Ytbhpkknimjmpjaa.In
