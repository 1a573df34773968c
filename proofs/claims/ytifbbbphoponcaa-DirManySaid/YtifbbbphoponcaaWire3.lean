/-
  The contracts of the document's Put, Text and Pad.
-/
import Derived.Test.YtifbbbphoponcaaWire2
namespace Go.Proofs.Ytifbbbphoponcaa.Wi
open Go.RowKit Wd
set_option linter.unusedVariables false

def up (v : Int) (t : Nat) : Int := IntKind.u64.wrap v / 256 ^ t
theorem up_zero (v : Int) : up v 0 = IntKind.u64.wrap v := by simp [up]
theorem up_succ (v : Int) (t : Nat) : up v (t + 1) = up v t / 256 := by
  unfold up
  rw [Int.pow_succ, Int.ediv_ediv_of_nonneg (Int.le_of_lt (Int.pow_pos (by decide)))]
theorem up_bd (v : Int) (t : Nat) : 0 ≤ up v t ∧ up v t ≤ 18446744073709551615 := by
  have h : 0 ≤ IntKind.u64.wrap v ∧ IntKind.u64.wrap v ≤ 18446744073709551615 := by
    simp [IntKind.wrap, IntKind.bits, IntKind.signed]; omega
  have hp : (0 : Int) < 256 ^ t := Int.pow_pos (by decide)
  unfold up
  exact ⟨Int.ediv_nonneg h.1 (by omega), Int.le_trans (Int.ediv_le_self _ h.1) h.2⟩
theorem up_byte (v : Int) (t : Nat) (ht : t < 8) : up v t % 256 = v / 2 ^ (8 * t) % 256 := by
  have hw : IntKind.u64.wrap v = v % 18446744073709551616 := by simp [IntKind.wrap, IntKind.bits, IntKind.signed]
  unfold up
  rw [hw]
  have h : t = 0 ∨ t = 1 ∨ t = 2 ∨ t = 3 ∨ t = 4 ∨ t = 5 ∨ t = 6 ∨ t = 7 := by omega
  rcases h with rfl | rfl | rfl | rfl | rfl | rfl | rfl | rfl <;> simp <;> omega

set_option maxHeartbeats 400000 in
theorem rput_any (v k : Int) (w : World)
    (hv : -9223372036854775808 ≤ v) (hv2 : v ≤ 9223372036854775807) (hk : -9223372036854775808 ≤ k) (hk2 : k ≤ 9223372036854775807) :
    Calls Try.prog 36 #[.int .i64 v, .int .i64 k] w (Res w (putB v (min k 8).toNat)) := by
  obtain ⟨i0, hi, hz0, hz1, hz2⟩ := info_parts infoB
  have hm8 : (min k 8).toNat ≤ 8 := by omega
  have hmk : (min k 8).toNat ≤ k ∨ (min k 8).toNat ≤ 0 := by omega
  have hmj : k ≤ (min k 8).toNat ∨ 8 ≤ (min k 8).toNat := by omega
  generalize (min k 8).toNat = m at *
  have H0 := Lib.hid (up_zero v)
  go_enter Try.func36, Try.ntmps36
  go_wp2
  go_loopw [5, 6, 7] (fun b u j wr => ∃ t : Nat, t ≤ m ∧ j = .int .i64 (t : Int) ∧ u = .int .u64 (up v t) ∧ Mine wr w.heap.size 5 1 b t ((putB v t).map bv) ∧ Below w.heap.size w wr)
    (fun _ _ j _ => 8 - (intOf j).toNat)
  case atStart => exact ⟨0, by omega, rfl, by rw [H0.out], Mine.nil, Below.refl _ _⟩
  case round =>
    obtain ⟨t, ht, rfl, rfl, hmine, hbel⟩ := hrel
    obtain ⟨A', c', rfl, _⟩ := hmine.form
    by_cases hlt : t < m
    · have htI0 : (t : Int) < 8 := by omega
      have htI : (t : Int) < k := by omega
      have hsz := hbel.size
      obtain ⟨hu0, hu1⟩ := up_bd v t
      have HB := Lib.hid (up_byte v t (by omega))
      have HS := Lib.hid (up_succ v t)
      go_wp2_with (at_builtin; refine wpList_append_mine rfl (.tmp 19) (.tmp 23) _ _ rfl w.heap.size 5 i0 (.int .u8 0) 1 1 hz1 hz2 rfl (by decide) _ _ _ rfl (hmine.alloc _) _ 1 [.int .u8 (up v t % 256)] rfl (Gives.elem Try.underlying23 hi hz0 hz1 _ rfl) (by simp only [maxLen]; omega) (by omega) (by simp; omega) ?_; intro A2 c2 w2 hm2 hg2 hb2 hat2 hown2)
      go_roundw
      case rel =>
        refine ⟨t + 1, by omega, by go_num, by rw [HS.out], ?_, (hbel.alloc hsz _).trans hb2⟩
        rw [HB.out] at hm2
        have := put_step (n := 0) (l := []) (by simpa using hm2)
        simpa using this
      case measure => simp [intOf]; omega
    · have htm : t = m := by omega
      have HM := Lib.hid hmine
      have HT := Lib.hid htm
      clear hmine htm
      by_cases hk3 : (t : Int) < k
      · have h8 : (8 : Int) ≤ (t : Int) := by omega
        go_wp2
        go_ret
        have hmine := HM.out
        rw [HT.out] at hmine
        rw [HT.out]
        exact res_mine (by rw [putB_len]) hmine hbel
      · have h8 : k ≤ (t : Int) := by omega
        have hd : decide ((t : Int) < k) = false := by simpa using h8
        go_wp2
        go_ret
        have hmine := HM.out
        rw [HT.out] at hmine
        rw [HT.out]
        exact res_mine (by rw [putB_len]) hmine hbel

set_option maxHeartbeats 400000 in
theorem rtext_no (s : ByteArray) (k : Int) (w : World) (hsz : s.size ≤ 9223372036854775807) (h : k < 0 ∨ 255 < k ∨ k < (s.size : Int)) :
    Calls Try.prog 35 #[.string s, .int .i64 k] w fun e w' => e = .returned (.tuple #[.slice none 0 0, .bool false]) ∧ w = w' := by
  have hs0 : (0 : Int) ≤ (s.size : Int) := by omega
  by_cases h0 : k < 0
  · go_enter Try.func35, Try.ntmps35
    go_wp2
    go_ret2
    exact ⟨rfl, rfl⟩
  · by_cases h1 : 255 < k
    · go_enter Try.func35, Try.ntmps35
      go_wp2
      go_ret2
      exact ⟨rfl, rfl⟩
    · have h2 : k < (s.size : Int) := by omega
      clear h
      go_enter Try.func35, Try.ntmps35
      go_wp2
      go_ret2
      exact ⟨rfl, rfl⟩

set_option maxHeartbeats 800000 in
theorem rtext_yes (s : ByteArray) (k : Nat) (w : World) (hk : k ≤ 255) (hsk : s.size ≤ k) :
    Calls Try.prog 35 #[.string s, .int .i64 (k : Int)] w (Res2 w (txt s k) true) := by
  obtain ⟨i0, hi, hz0, hz1, hz2⟩ := info_parts infoB
  obtain ⟨m, rfl⟩ : ∃ m, k = s.size + m := ⟨k - s.size, by omega⟩
  have hs0 : (0 : Int) ≤ (s.size : Int) := by omega
  have hs1 : (s.size : Int) ≤ 255 := by omega
  have hs2 : (0 : Int) ≤ (m : Int) := by omega
  have hs3 : (m : Int) ≤ 255 := by omega
  have hs4 : (s.size : Int) + (m : Int) ≤ 255 := by omega
  have hm1 : Mine (w.alloc (.cells #[.int .u8 (s.size : Int)] 5)) w.heap.size 5 1 (.slice (some ⟨w.heap.size, 0, none⟩) 1 1) 1 [.int .u8 (s.size : Int)] :=
    .inr ⟨rfl, .inr ⟨w.heap.size, 1, _, rfl, Nat.le_refl _, heap_alloc_new w _, Nat.le_refl _, by simp [maxLen], rfl, rfl⟩⟩
  go_enter Try.func35, Try.ntmps35
  go_wp2_with (first
    | (at_builtin; refine wpList_append_mine rfl (.tmp 22) (.tmp 23) _ _ rfl w.heap.size 5 i0 (.int .u8 0) 1 1 hz1 hz2 rfl (by decide) _ _ _ rfl hm1 _ s.size (byteCells s) rfl (Gives.string Try.underlying23 Try.underlying9 hi hz0 hz1 _) (by simp only [maxLen]; omega) (by omega) (by simp) ?_; intro A2 c2 w2 hm2 hg2 hb2 hat2 hown2; have hsz2 := hb2.size; simp at hsz2)
    | (at_builtin; refine wpList_append_mine rfl (.tmp 25) (.tmp 29) _ _ rfl w.heap.size 5 i0 (.int .u8 0) 1 1 hz1 hz2 rfl (by decide) _ _ _ rfl hm2 _ m (List.replicate m (.int .u8 0)) rfl (Gives.zeros m (by omega) .i64 Try.underlying23 Try.underlying3 hi hz0 rfl rfl hz1 (by omega) (by rw [hz2]; omega)) (by simp only [maxLen]; omega) (by omega) (by omega) ?_; intro A3 c3 w3 hm3 hg3 hb3 hat3 hown3))
  go_ret2
  refine res2_mine (e := 5) (B := w.heap.size) ?_ (txt_cells [] s (s.size + m) m (by omega) rfl) hm3 ((((Below.refl _ _).alloc (Nat.le_refl _) _).trans hb2).trans hb3)
  rw [txt_len _ _ (by omega)]
  omega

theorem rtext_yes' (s : ByteArray) (k : Int) (w : World) (hk0 : 0 ≤ k) (hk : k ≤ 255) (hsk : (s.size : Int) ≤ k) :
    Calls Try.prog 35 #[.string s, .int .i64 k] w (Res2 w (txt s k.toNat) true) := by
  obtain ⟨k, rfl⟩ := Int.eq_ofNat_of_zero_le hk0
  exact rtext_yes s k w (by omega) (by omega)

def lenV : Value → Nat | .slice _ n _ => n | _ => 0
theorem mine_snoc {w : World} {B n t : Nat} {e : TypeId} {v : Value} {xs : List Value} {u : Value} (h : Mine w B e 1 v (n + t + 1) (xs ++ List.replicate t u ++ [u])) : Mine w B e 1 v (n + (t + 1)) (xs ++ List.replicate (t + 1) u) := by
  rw [List.replicate_succ', ← List.append_assoc]
  exact h
def ResB (B : Nat) (w : World) (l : List UInt8) (e : Ending) (w' : World) : Prop :=
  ∃ A c, e = .returned (.slice A l.length c) ∧ Mine w' B 5 1 (.slice A l.length c) l.length (l.map bv) ∧ Below B w w'

set_option maxHeartbeats 400000 in
theorem rpad_any (B : Nat) (A : Option Addr) (l : List UInt8) (c : Nat) (k : Int) (w : World) (hB : B ≤ w.heap.size) (hm : Mine w B 5 1 (.slice A l.length c) l.length (l.map bv)) (hl : l.length ≤ 140737488355327) (hk : k ≤ 140737488355327) (hk0 : -9223372036854775808 ≤ k) :
    Calls Try.prog 37 #[.slice A l.length c, .int .i64 k] w (ResB B w (l ++ List.replicate (k.toNat - l.length) 0)) := by
  obtain ⟨i0, hi, hz0, hz1, hz2⟩ := info_parts infoB
  obtain ⟨m, hm1⟩ : ∃ m, m = k.toNat - l.length := ⟨_, rfl⟩
  rw [← hm1]
  have hm2 : (m : Int) + l.length ≤ k ∨ m ≤ 0 := by omega
  have hm3 : k ≤ (m : Int) + l.length := by omega
  have hm4 : m ≤ 140737488355327 := by omega
  have hm5 : m + l.length ≤ 140737488355327 := by omega
  clear hm1
  go_enter Try.func37, Try.ntmps37
  go_wp2
  go_loopw [0] (fun b wr => ∃ t A' c', t ≤ m ∧ b = .slice A' (l.length + t) c' ∧ Mine wr B 5 1 b (l.length + t) (l.map bv ++ List.replicate t (.int .u8 0)) ∧ Below B w wr)
    (fun b _ => l.length + m - lenV b)
  case atStart => exact ⟨0, A, c, by omega, rfl, by simpa using hm, Below.refl _ _⟩
  case round =>
    obtain ⟨t, A', c', ht, rfl, hmine, hbel⟩ := hrel
    by_cases hlt : t < m
    · have htI : (l.length : Int) + (t : Int) < k := by omega
      have hsz := hbel.size
      go_wp2_with (at_builtin; refine wpList_append_mine rfl (.tmp 9) (.tmp 10) _ _ rfl B 5 i0 (.int .u8 0) 1 1 hz1 hz2 rfl (by decide) _ _ _ rfl (hmine.alloc _) _ 1 [.int .u8 0] rfl (Gives.elem Try.underlying23 hi hz0 hz1 _ rfl) (by simp only [maxLen]; omega) (by omega) (by simp; omega) ?_; intro A2 c2 w2 hm2 hg2 hb2 hat2 hown2)
      go_roundw
      case rel => exact ⟨t + 1, A2, c2, by omega, rfl, mine_snoc hm2, (hbel.alloc (by omega) _).trans hb2⟩
      case measure => simp [lenV]; omega
    · have htI : k ≤ (l.length : Int) + (t : Int) := by omega
      have htm : t = m := by omega
      have HM := Lib.hid hmine
      have HT := Lib.hid htm
      clear hmine htm hm
      go_wp2
      go_ret
      have hmine := HM.out
      have ht := HT.out
      subst ht
      rw [pad_cells] at hmine
      have hlen : (l ++ List.replicate t (0 : UInt8)).length = l.length + t := by simp
      exact ⟨A', c', by rw [hlen]; rfl, by rw [hlen]; exact hmine, hbel⟩
end Go.Proofs.Ytifbbbphoponcaa.Wi
