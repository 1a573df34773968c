/-
  The contract of wire.PutText: where the text has room, its bytes stand behind b; else b is handed back.
-/
import Derived.Test.YtifbbbphoponcaaWire0
namespace Go.Proofs.Ytifbbbphoponcaa.Wi
open Go.RowKit Wd
set_option linter.unusedVariables false

def Res2 (w : World) (l : List UInt8) (b : Bool) (e : Ending) (w' : World) : Prop :=
  ∃ A c, e = .returned (.tuple #[.slice A l.length c, .bool b]) ∧ Sl w' w'.heap.size 1 A l.length (l.map bv) ∧ l.length ≤ c ∧ c ≤ maxLen ∧ Below w.heap.size w w'
theorem res2_mine {w w' : World} {A : Option Addr} {n c : Nat} {l : List UInt8} {B : Nat} {e : TypeId} {b : Bool} {xs : List Value} (hn : n = l.length) (hx : xs = l.map bv) (h : Mine w' B e 1 (.slice A n c) n xs) (hb : Below w.heap.size w w') :
    Res2 w l b (.returned (.tuple #[.slice A n c, .bool b])) w' := by
  subst hn; subst hx
  obtain ⟨A', c', hv, h1, h2, h3⟩ := h.form
  injection hv with hA _ hc
  subst hA; subst hc
  exact ⟨_, _, rfl, h3, h1, h2, hb⟩

def ResT (w : World) (l : List UInt8) (e : Ending) (w' : World) : Prop :=
  ∃ A c, e = .returned (.tuple #[.slice A l.length c, .bool true]) ∧ w'.ownsRow w.heap.size 5 1 (.slice A l.length c) l.length (l.map bv) ∧ Below w.heap.size w w'
theorem ResT.res2 {w w' : World} {l : List UInt8} {e : Ending} (h : ResT w l e w') : Res2 w l true e w' := by
  obtain ⟨A, c, rfl, h, hb⟩ := h
  exact res2_mine rfl rfl (.inr h) hb

def txt (s : ByteArray) (n : Nat) : List UInt8 := UInt8.ofNat s.size :: (s.data.toList ++ List.replicate (n - s.size) 0)

theorem txt_cells (l : List UInt8) (s : ByteArray) (n m : Nat) (h : s.size ≤ 255) (hn : n = s.size + m) :
    List.map bv l ++ [Value.int .u8 (s.size : Int)] ++ byteCells s ++ List.replicate m (Value.int .u8 0) = (l ++ txt s n).map bv := by
  subst hn
  have e : bv (UInt8.ofNat s.size) = .int .u8 (s.size : Int) := by
    have := bv_of (s.size : Int) (by omega) (by omega)
    simpa using this
  simp [txt, e, byteCells_bv, Nat.add_sub_cancel_left]
  exact .inr rfl
theorem size_data (s : ByteArray) : s.data.toList.length = s.size := by rw [Array.length_toList]; rfl
theorem txt_len (s : ByteArray) (n : Nat) (h : s.size ≤ n) : (txt s n).length = n + 1 := by
  simp [txt]
  have : s.data.size = s.size := rfl
  omega

set_option maxHeartbeats 400000 in
theorem text_no (A : Option Addr) (n c : Nat) (s : ByteArray) (k : Int) (w : World) (hsz : s.size ≤ 9223372036854775807) (h : k < 0 ∨ 255 < k ∨ k < (s.size : Int)) :
    Calls Try.prog 29 #[.slice A n c, .string s, .int .i64 k] w fun e w' => e = .returned (.tuple #[.slice A n c, .bool false]) ∧ w = w' := by
  have hs0 : (0 : Int) ≤ (s.size : Int) := by omega
  by_cases h0 : k < 0
  · go_enter Try.func29, Try.ntmps29
    go_wp2
    go_ret2
    exact ⟨rfl, rfl⟩
  · by_cases h1 : 255 < k
    · go_enter Try.func29, Try.ntmps29
      go_wp2
      go_ret2
      exact ⟨rfl, rfl⟩
    · have h2 : k < (s.size : Int) := by omega
      clear h
      go_enter Try.func29, Try.ntmps29
      go_wp2
      go_ret2
      exact ⟨rfl, rfl⟩

set_option maxHeartbeats 800000 in
theorem text_yes (A : Option Addr) (l : List UInt8) (c : Nat) (s : ByteArray) (k : Nat) (w : World) (hs : Sl w w.heap.size 1 A l.length (l.map bv)) (hc : l.length ≤ c) (hl : l.length + 256 ≤ 140737488355328)
    (hk : k ≤ 255) (hsk : s.size ≤ k) :
    Calls Try.prog 29 #[.slice A l.length c, .string s, .int .i64 (k : Int)] w (ResT w (l ++ txt s k)) := by
  obtain ⟨i0, hi, hz0, hz1, hz2⟩ := info_parts infoB
  obtain ⟨m, rfl⟩ : ∃ m, k = s.size + m := ⟨k - s.size, by omega⟩
  have hcI : (l.length : Int) ≤ (c : Int) := by omega
  have hm0 : Mine w w.heap.size 5 1 (.slice A l.length l.length) l.length (l.map bv) := Mine.full hs (by simp only [maxLen]; omega)
  have hs0 : (0 : Int) ≤ (s.size : Int) := by omega
  have hs1 : (s.size : Int) ≤ 255 := by omega
  have hs2 : (0 : Int) ≤ (m : Int) := by omega
  have hs3 : (m : Int) ≤ 255 := by omega
  have hs4 : (s.size : Int) + (m : Int) ≤ 255 := by omega
  go_enter Try.func29, Try.ntmps29
  go_wp2_with (first
    | (at_builtin; refine wpList_append_mine rfl (.tmp 27) (.tmp 31) _ _ rfl w.heap.size 5 i0 (.int .u8 0) 1 1 hz1 hz2 rfl (by decide) _ _ _ rfl (hm0.alloc _) _ 1 [.int .u8 (s.size : Int)] rfl (Gives.elem Try.underlying23 hi hz0 hz1 _ rfl) (by simp only [maxLen]; omega) (by omega) (by simp) ?_; intro A1 c1 w1 hm1 hg1 hb1 hat1 hown1; have hsz1 := hb1.size; simp at hsz1)
    | (at_builtin; refine wpList_append_mine rfl (.tmp 33) (.tmp 34) _ _ rfl w.heap.size 5 i0 (.int .u8 0) 1 1 hz1 hz2 rfl (by decide) _ _ _ rfl hm1 _ s.size (byteCells s) rfl (Gives.string Try.underlying23 Try.underlying9 hi hz0 hz1 _) (by simp only [maxLen]; omega) (by omega) (by omega) ?_; intro A2 c2 w2 hm2 hg2 hb2 hat2 hown2; have hsz2 := hb2.size)
    | (at_builtin; refine wpList_append_mine rfl (.tmp 36) (.tmp 40) _ _ rfl w.heap.size 5 i0 (.int .u8 0) 1 1 hz1 hz2 rfl (by decide) _ _ _ rfl hm2 _ m (List.replicate m (.int .u8 0)) rfl (Gives.zeros m (by omega) .i64 Try.underlying23 Try.underlying3 hi hz0 rfl rfl hz1 (by omega) (by rw [hz2]; omega)) (by simp only [maxLen]; omega) (by omega) (by omega) ?_; intro A3 c3 w3 hm3 hg3 hb3 hat3 hown3))
  go_ret2
  have hlen : l.length + 1 + s.size + m = (l ++ txt s (s.size + m)).length := by
    rw [List.length_append, txt_len _ _ (by omega)]
    omega
  have hown := hown3 (.inr (hown2 (.inr (hown1 (.inl (by omega))))))
  rw [txt_cells l s (s.size + m) m (by omega) rfl] at hown
  exact ⟨A3, c3, by rw [← hlen]; rfl, by rw [← hlen]; exact hown, (((Below.refl _ _).alloc (Nat.le_refl _) _).trans hb1).trans (hb2.trans hb3)⟩
theorem text_yes' (A : Option Addr) (l : List UInt8) (c : Nat) (s : ByteArray) (k : Int) (w : World) (hs : Sl w w.heap.size 1 A l.length (l.map bv)) (hc : l.length ≤ c) (hl : l.length + 256 ≤ 140737488355328)
    (hk0 : 0 ≤ k) (hk : k ≤ 255) (hsk : (s.size : Int) ≤ k) :
    Calls Try.prog 29 #[.slice A l.length c, .string s, .int .i64 k] w (ResT w (l ++ txt s k.toNat)) := by
  obtain ⟨k, rfl⟩ := Int.eq_ofNat_of_zero_le hk0
  exact text_yes A l c s k w hs hc hl (by omega) (by omega)
end Go.Proofs.Ytifbbbphoponcaa.Wi
