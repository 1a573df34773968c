/-
  The contract of wire.Put: the bytes that it puts behind b, for any number, any count, any b: what it hands back reads so, and nothing that was there has turned.
-/
import Derived.Test.YtifbbbphoponcaaWords
import Derived.Test.YtifbbbphoponcaaRows
namespace Go.Proofs.Ytifbbbphoponcaa.Wi
open Go.RowKit Wd
set_option linter.unusedVariables false

theorem infoB : (Try.prog.info? 5).map (fun i => (i.zero, i.size, i.bytes)) = some (some (.int .u8 0), 1, 1) := by kernel_rfl
def putB (v : Int) (m : Nat) : List UInt8 := (List.range m).map fun i => UInt8.ofNat ((v / 2 ^ (8 * i)) % 256).toNat
theorem putB_len (v : Int) (m : Nat) : (putB v m).length = m := by simp [putB]
theorem putB_succ (v : Int) (m : Nat) : putB v (m + 1) = putB v m ++ [UInt8.ofNat ((v / 2 ^ (8 * m)) % 256).toNat] := by simp [putB, List.range_succ]

def Res (w : World) (l : List UInt8) (e : Ending) (w' : World) : Prop :=
  ∃ A c, e = .returned (.slice A l.length c) ∧ Sl w' w'.heap.size 1 A l.length (l.map bv) ∧ l.length ≤ c ∧ c ≤ maxLen ∧ Below w.heap.size w w'

theorem put_step {w2 : World} {B n t : Nat} {v : Int} {v' : Value} {l : List UInt8} (h : Mine w2 B 5 1 v' (n + t + 1) ((l ++ putB v t).map bv ++ [.int .u8 (v / 2 ^ (8 * t) % 256)])) :
    Mine w2 B 5 1 v' (n + (t + 1)) ((l ++ putB v (t + 1)).map bv) := by
  rw [putB_succ, ← List.append_assoc, List.map_append (l₂ := [_])]
  simp only [List.map_cons, List.map_nil]
  rw [bv_of _ (Int.emod_nonneg _ (by decide)) (Int.emod_lt_of_pos _ (by decide))]
  exact h
theorem res_mine {w w' : World} {A : Option Addr} {n c : Nat} {l : List UInt8} {B : Nat} {e : TypeId} (hn : n = l.length) (h : Mine w' B e 1 (.slice A n c) n (l.map bv)) (hb : Below w.heap.size w w') :
    Res w l (.returned (.slice A n c)) w' := by
  subst hn
  obtain ⟨A', c', hv, h1, h2, h3⟩ := h.form
  injection hv with hA _ hc
  subst hA; subst hc
  exact ⟨_, _, rfl, h3, h1, h2, hb⟩

set_option maxHeartbeats 400000 in
theorem put_any (A : Option Addr) (l : List UInt8) (c : Nat) (v k : Int) (w : World) (hs : Sl w w.heap.size 1 A l.length (l.map bv)) (hc : l.length ≤ c) (hl : l.length + 8 ≤ 140737488355328)
    (hv : -9223372036854775808 ≤ v) (hv2 : v ≤ 9223372036854775807) (hk : -9223372036854775808 ≤ k) (hk2 : k ≤ 9223372036854775807) :
    Calls Try.prog 31 #[.slice A l.length c, .int .i64 v, .int .i64 k] w (Res w (l ++ putB v (min k 8).toNat)) := by
  obtain ⟨i0, hi, hz0, hz1, hz2⟩ := info_parts infoB
  have hcI : (l.length : Int) ≤ (c : Int) := by omega
  have hm0 : Mine w w.heap.size 5 1 (.slice A l.length l.length) l.length (l.map bv) := Mine.full hs (by simp only [maxLen]; omega)
  have hm8 : (min k 8).toNat ≤ 8 := by omega
  have hcase : (9 ≤ k ∧ 8 ≤ (min k 8).toNat) ∨ (1 ≤ k ∧ k ≤ 7 ∧ (min k 8).toNat ≤ k ∧ k ≤ (min k 8).toNat) ∨ (k = 8 ∧ 8 ≤ (min k 8).toNat) ∨ (k = 0 ∧ (min k 8).toNat ≤ 0) ∨ (k < 0 ∧ (min k 8).toNat ≤ 0) := by omega
  generalize (min k 8).toNat = m at *
  rcases hcase with ⟨h8, hma⟩ | ⟨h0, h8, hma, hmb⟩ | ⟨rfl, hma⟩ | ⟨rfl, hma⟩ | ⟨h0, hma⟩
  all_goals
    go_enter Try.func31, Try.ntmps31
    go_wp2
    go_loopw [0, 17] (fun b j wr => ∃ t : Nat, t ≤ m ∧ j = .int .i64 (t : Int) ∧ Mine wr w.heap.size 5 1 b (l.length + t) ((l ++ putB v t).map bv) ∧ Below w.heap.size w wr)
      (fun _ j _ => 8 - (intOf j).toNat)
    case atStart => exact ⟨0, by omega, rfl, by simpa [putB] using hm0, Below.refl _ _⟩
    case round =>
      obtain ⟨t, ht, rfl, hmine, hbel⟩ := hrel
      obtain ⟨A', c', rfl, _⟩ := hmine.form
      have hpl := putB_len v t
      by_cases hlt : t < m
      · first | (exfalso; omega) | (
          have htI0 : (t : Int) < 8 := by omega
          have htI : (t : Int) < (m : Int) := by omega
          have hsz := hbel.size
          clear hpl
          go_wp2_with (at_builtin; refine wpList_append_mine rfl (.tmp 20) (.tmp 26) _ _ rfl w.heap.size 5 i0 (.int .u8 0) 1 1 hz1 hz2 rfl (by decide) _ _ _ rfl (hmine.alloc _) _ 1 [.int .u8 (v / 2 ^ (8 * t) % 256)] rfl (Gives.elem Try.underlying23 hi hz0 hz1 _ rfl) (by simp only [maxLen]; omega) (by omega) (by simp; omega) ?_; intro A2 c2 w2 hm2 hg2 hb2 hat2 hown2)
          go_roundw
          case rel => exact ⟨t + 1, by omega, by go_num, put_step hm2, (hbel.alloc hsz _).trans hb2⟩
          case measure => simp [intOf]; omega)
      · have htI0 : (m : Int) ≤ (t : Int) := by omega
        have htm : t = m := by omega
        have HM := Lib.hid hmine
        have HT := Lib.hid htm
        clear hmine htm hpl
        go_wp2
        go_ret
        have hmine := HM.out
        rw [HT.out] at hmine
        rw [HT.out]
        exact res_mine (by rw [List.length_append, putB_len]) hmine hbel
end Go.Proofs.Ytifbbbphoponcaa.Wi
