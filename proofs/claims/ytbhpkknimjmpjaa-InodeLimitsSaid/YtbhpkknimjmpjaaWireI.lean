/-
  The contracts of wire's numbers and padding, and of the document's.
-/
import Derived.Test.YtbhpkknimjmpjaaWords
import Derived.Test.YtbhpkknimjmpjaaRows
namespace Go.Proofs.Ytbhpkknimjmpjaa.Wi
open Go.RowKit Wd
set_option linter.unusedVariables false

theorem infoB : (Try.prog.info? 5).map (fun i => (i.zero, i.size, i.bytes)) = some (some (.int .u8 0), 1, 1) := by kernel_rfl
def putB (v : Int) (m : Nat) : List UInt8 := (List.range m).map fun i => UInt8.ofNat ((v / 2 ^ (8 * i)) % 256).toNat
theorem putB_len (v : Int) (m : Nat) : (putB v m).length = m := by simp [putB]
theorem putB_succ (v : Int) (m : Nat) : putB v (m + 1) = putB v m ++ [UInt8.ofNat ((v / 2 ^ (8 * m)) % 256).toNat] := by simp [putB, List.range_succ]
def Res (w : World) (l : List UInt8) (e : Ending) (w' : World) : Prop :=
  ∃ A c, e = .returned (.slice A l.length c) ∧ Sl w' w'.heap.size 1 A l.length (l.map bv) ∧ l.length ≤ c ∧ c ≤ maxLen ∧ Below w.heap.size w w'
theorem put_step {w2 : World} {B n t : Nat} {v : Int} {v' : Value} {l : List UInt8} (h : Mine w2 B 5 1 v' (n + t + 1) ((l ++ putB v t).map bv ++ [.int .u8 (v / 2 ^ (8 * t) % 256)])) :
    Mine w2 B 5 1 v' (n + (t + 1)) ((l ++ putB v (t + 1)).map bv) := by
  rw [putB_succ, ← List.append_assoc, List.map_append (l₂ := [_])]
  simp only [List.map_cons, List.map_nil]
  rw [bv_of _ (Int.emod_nonneg _ (by decide)) (Int.emod_lt_of_pos _ (by decide))]
  exact h
theorem res_mine {w w' : World} {A : Option Addr} {n c : Nat} {l : List UInt8} {B : Nat} {e : TypeId} (hn : n = l.length) (h : Mine w' B e 1 (.slice A n c) n (l.map bv)) (hb : Below w.heap.size w w') :
    Res w l (.returned (.slice A n c)) w' := by
  subst hn
  obtain ⟨A', c', hv, h1, h2, h3⟩ := h.form
  injection hv with hA _ hc
  subst hA; subst hc
  exact ⟨_, _, rfl, h3, h1, h2, hb⟩
set_option maxHeartbeats 400000 in
theorem put_any (A : Option Addr) (l : List UInt8) (c : Nat) (v k : Int) (w : World) (hs : Sl w w.heap.size 1 A l.length (l.map bv)) (hc : l.length ≤ c) (hl : l.length + 8 ≤ 140737488355328)
    (hv : -9223372036854775808 ≤ v) (hv2 : v ≤ 9223372036854775807) (hk : -9223372036854775808 ≤ k) (hk2 : k ≤ 9223372036854775807) :
    Calls Try.prog 20 #[.slice A l.length c, .int .i64 v, .int .i64 k] w (Res w (l ++ putB v (min k 8).toNat)) := by
  obtain ⟨i0, hi, hz0, hz1, hz2⟩ := info_parts infoB
  have hcI : (l.length : Int) ≤ (c : Int) := by omega
  have hm0 : Mine w w.heap.size 5 1 (.slice A l.length l.length) l.length (l.map bv) := Mine.full hs (by simp only [maxLen]; omega)
  have hm8 : (min k 8).toNat ≤ 8 := by omega
  have hcase : (9 ≤ k ∧ 8 ≤ (min k 8).toNat) ∨ (1 ≤ k ∧ k ≤ 7 ∧ (min k 8).toNat ≤ k ∧ k ≤ (min k 8).toNat) ∨ (k = 8 ∧ 8 ≤ (min k 8).toNat) ∨ (k = 0 ∧ (min k 8).toNat ≤ 0) ∨ (k < 0 ∧ (min k 8).toNat ≤ 0) := by omega
  generalize (min k 8).toNat = m at *
  rcases hcase with ⟨h8, hma⟩ | ⟨h0, h8, hma, hmb⟩ | ⟨rfl, hma⟩ | ⟨rfl, hma⟩ | ⟨h0, hma⟩
  all_goals
    go_enter Try.func20, Try.ntmps20
    go_wp2
    go_loopw [0, 17] (fun b j wr => ∃ t : Nat, t ≤ m ∧ j = .int .i64 (t : Int) ∧ Mine wr w.heap.size 5 1 b (l.length + t) ((l ++ putB v t).map bv) ∧ Below w.heap.size w wr)
      (fun _ j _ => 8 - (intOf j).toNat)
    case atStart => exact ⟨0, by omega, rfl, by simpa [putB] using hm0, Below.refl _ _⟩
    case round =>
      obtain ⟨t, ht, rfl, hmine, hbel⟩ := hrel
      obtain ⟨A', c', rfl, _⟩ := hmine.form
      have hpl := putB_len v t
      by_cases hlt : t < m
      · first | (exfalso; omega) | (
          have htI0 : (t : Int) < 8 := by omega
          have htI : (t : Int) < (m : Int) := by omega
          have hsz := hbel.size
          clear hpl
          go_wp2_with (at_builtin; refine wpList_append_mine rfl (.tmp 20) (.tmp 26) _ _ rfl w.heap.size 5 i0 (.int .u8 0) 1 1 hz1 hz2 rfl (by decide) _ _ _ rfl (hmine.alloc _) _ 1 [.int .u8 (v / 2 ^ (8 * t) % 256)] rfl (Gives.elem Try.underlying22 hi hz0 hz1 _ rfl) (by simp only [maxLen]; omega) (by omega) (by simp; omega) ?_; intro A2 c2 w2 hm2 hg2 hb2 hat2 hown2)
          go_roundw
          case rel => exact ⟨t + 1, by omega, by go_num, put_step hm2, (hbel.alloc hsz _).trans hb2⟩
          case measure => simp [intOf]; omega)
      · have htI0 : (m : Int) ≤ (t : Int) := by omega
        have htm : t = m := by omega
        have HM := Lib.hid hmine
        have HT := Lib.hid htm
        clear hmine htm hpl
        go_wp2
        go_ret
        have hmine := HM.out
        rw [HT.out] at hmine
        rw [HT.out]
        exact res_mine (by rw [List.length_append, putB_len]) hmine hbel
def Res2 (w : World) (l : List UInt8) (b : Bool) (e : Ending) (w' : World) : Prop :=
  ∃ A c, e = .returned (.tuple #[.slice A l.length c, .bool b]) ∧ Sl w' w'.heap.size 1 A l.length (l.map bv) ∧ l.length ≤ c ∧ c ≤ maxLen ∧ Below w.heap.size w w'
theorem res2_mine {w w' : World} {A : Option Addr} {n c : Nat} {l : List UInt8} {B : Nat} {e : TypeId} {b : Bool} {xs : List Value} (hn : n = l.length) (hx : xs = l.map bv) (h : Mine w' B e 1 (.slice A n c) n xs) (hb : Below w.heap.size w w') :
    Res2 w l b (.returned (.tuple #[.slice A n c, .bool b])) w' := by
  subst hn; subst hx
  obtain ⟨A', c', hv, h1, h2, h3⟩ := h.form
  injection hv with hA _ hc
  subst hA; subst hc
  exact ⟨_, _, rfl, h3, h1, h2, hb⟩
theorem pad_cells (l : List UInt8) (m : Nat) : List.map bv l ++ List.replicate m (Value.int .u8 0) = (l ++ List.replicate m 0).map bv := by
  simp
  exact .inr rfl
set_option maxHeartbeats 400000 in
theorem pad_no (A : Option Addr) (n c : Nat) (k : Int) (w : World) (h : k < (n : Int)) :
    Calls Try.prog 21 #[.slice A n c, .int .i64 k] w fun e w' => e = .returned (.tuple #[.slice A n c, .bool false]) ∧ w = w' := by
  go_enter Try.func21, Try.ntmps21
  go_wp2
  go_ret2
  exact ⟨rfl, rfl⟩
set_option maxHeartbeats 400000 in
theorem pad_yes (A : Option Addr) (l : List UInt8) (c : Nat) (k : Int) (w : World) (hs : Sl w w.heap.size 1 A l.length (l.map bv)) (hc : l.length ≤ c) (h : (l.length : Int) ≤ k) (hk : k ≤ 140737488355328) :
    Calls Try.prog 21 #[.slice A l.length c, .int .i64 k] w (Res2 w (l ++ List.replicate (k.toNat - l.length) 0) true) := by
  obtain ⟨i0, hi, hz0, hz1, hz2⟩ := info_parts infoB
  have hcI : (l.length : Int) ≤ (c : Int) := by omega
  have hm0 : Mine w w.heap.size 5 1 (.slice A l.length l.length) l.length (l.map bv) := Mine.full hs (by simp only [maxLen]; omega)
  obtain ⟨m, hm⟩ : ∃ m, m = k.toNat - l.length := ⟨_, rfl⟩
  have hm1 : (m : Int) = k - l.length := by omega
  have HM := Lib.hid hm1
  rw [← hm]
  clear hm hm1
  go_enter Try.func21, Try.ntmps21
  go_wp2_with (at_builtin; refine wpList_append_mine rfl (.tmp 16) (.tmp 20) _ _ rfl w.heap.size 5 i0 (.int .u8 0) 1 1 hz1 hz2 rfl (by decide) _ _ _ rfl hm0 _ m (List.replicate m (.int .u8 0)) rfl (Gives.zeros m (by have := HM.out; omega) .i64 Try.underlying22 Try.underlying3 hi hz0 rfl rfl hz1 (by have := HM.out; omega) (by have := HM.out; rw [hz2]; omega)) (by have := HM.out; simp only [maxLen]; omega) (by have := HM.out; omega) (Nat.le_refl _) ?_; intro A3 c3 w3 hm3 hg3 hb3 hat3 hown3)
  go_ret2
  exact res2_mine (e := 5) (B := w.heap.size) (by simp) (pad_cells l m) hm3 hb3
set_option maxHeartbeats 400000 in
/-- where noughts come, the row is the call's own -/
theorem pad_own (A : Option Addr) (l : List UInt8) (c : Nat) (k : Int) (w : World) (hs : Sl w w.heap.size 1 A l.length (l.map bv)) (hc : l.length ≤ c) (h : (l.length : Int) < k) (hk : k ≤ 140737488355328) :
    Calls Try.prog 21 #[.slice A l.length c, .int .i64 k] w fun e w' => ∃ A c, e = .returned (.tuple #[.slice A (l ++ List.replicate (k.toNat - l.length) 0).length c, .bool true]) ∧
      w'.ownsRow w.heap.size 5 1 (.slice A (l ++ List.replicate (k.toNat - l.length) 0).length c) (l ++ List.replicate (k.toNat - l.length) 0).length ((l ++ List.replicate (k.toNat - l.length) 0).map bv) ∧ Below w.heap.size w w' := by
  obtain ⟨i0, hi, hz0, hz1, hz2⟩ := info_parts infoB
  have hcI : (l.length : Int) ≤ (c : Int) := by omega
  have hlk : (l.length : Int) ≤ k := by omega
  have hm0 : Mine w w.heap.size 5 1 (.slice A l.length l.length) l.length (l.map bv) := Mine.full hs (by simp only [maxLen]; omega)
  obtain ⟨m, hm⟩ : ∃ m, m = k.toNat - l.length := ⟨_, rfl⟩
  have hm1 : (m : Int) = k - l.length := by omega
  have hm2 : 0 < m := by omega
  have HM := Lib.hid hm1
  rw [← hm]
  clear hm hm1
  go_enter Try.func21, Try.ntmps21
  go_wp2_with (at_builtin; refine wpList_append_mine rfl (.tmp 16) (.tmp 20) _ _ rfl w.heap.size 5 i0 (.int .u8 0) 1 1 hz1 hz2 rfl (by decide) _ _ _ rfl hm0 _ m (List.replicate m (.int .u8 0)) rfl (Gives.zeros m (by have := HM.out; omega) .i64 Try.underlying22 Try.underlying3 hi hz0 rfl rfl hz1 (by have := HM.out; omega) (by have := HM.out; rw [hz2]; omega)) (by have := HM.out; simp only [maxLen]; omega) (by have := HM.out; omega) (Nat.le_refl _) ?_; intro A3 c3 w3 hm3 hg3 hb3 hat3 hown3)
  go_ret2
  have ho := hown3 (.inl hm2)
  rw [pad_cells] at ho
  have hlen : (l ++ List.replicate m (0 : UInt8)).length = l.length + m := by simp
  exact ⟨A3, c3, by rw [hlen]; rfl, by rw [hlen]; exact ho, hb3⟩
def ResM (w : World) (l : List UInt8) (e : Ending) (w' : World) : Prop :=
  ∃ A c, e = .returned (.slice A l.length c) ∧ Mine w' w.heap.size 5 1 (.slice A l.length c) l.length (l.map bv) ∧ Below w.heap.size w w'
set_option maxHeartbeats 400000 in
theorem bytes_any (A : Option Addr) (l : List UInt8) (c : Nat) (w : World) (hs : Sl w w.heap.size 1 A l.length (l.map bv)) (hc : l.length ≤ c) (hk : l.length ≤ 140737488355328) :
    Calls Try.prog 8 #[.slice A l.length c] w (ResM w l) := by
  obtain ⟨i0, hi, hz0, hz1, hz2⟩ := info_parts infoB
  go_enter Try.func8, Try.ntmps8
  go_wp2_with (at_builtin; refine wpList_append_mine rfl _ (.tmp 3) _ _ rfl w.heap.size 5 i0 (.int .u8 0) 1 1 hz1 hz2 rfl (by decide) _ _ _ rfl Mine.nil _ l.length (l.map bv) rfl (Gives.slice Try.underlying22 hi hz0 (by rw [hz1]; exact hs) (bv_one l)) (by simp only [maxLen]; omega) (by omega) (Nat.le_refl _) ?_; intro A3 c3 w3 hm3 hg3 hb3 hat3 hown3; simp only [Nat.zero_add, List.nil_append] at hm3)
  go_ret
  exact ⟨_, _, rfl, hm3, hb3⟩
def placeZ (v n : Int) : Int := v % n
theorem place_eq (v n : Int) (hn : 1 ≤ n) : placeZ v n = if v.tmod n < 0 then v.tmod n + n else v.tmod n := by
  unfold placeZ
  have h := @Int.emod_eq_tmod v n
  have hnn : (n.natAbs : Int) = n := by omega
  by_cases hd : 0 ≤ v ∨ n ∣ v
  · rw [if_pos hd] at h
    have h2 := Int.emod_nonneg v (show n ≠ 0 by omega)
    rw [if_neg (by omega)]
    omega
  · rw [if_neg hd, hnn] at h
    have h2 := Int.emod_lt_of_pos v (show 0 < n by omega)
    rw [if_pos (by omega)]
    exact h
theorem place_bd (v n : Int) (hn : 1 ≤ n) : 0 ≤ placeZ v n ∧ placeZ v n < n := ⟨Int.emod_nonneg _ (by omega), Int.emod_lt_of_pos _ (by omega)⟩
set_option maxHeartbeats 400000 in
theorem place_any (v n : Int) (w : World) (hn : 1 ≤ n) (hn2 : n ≤ 1000000) (hv : -9223372036854775808 ≤ v) (hv2 : v ≤ 9223372036854775807) :
    Calls Try.prog 13 #[.int .i64 v, .int .i64 n] w fun e w' => e = .returned (.int .i64 (placeZ v n)) ∧ w = w' := by
  have h1 := Int.tmod_lt_of_pos v (show 0 < n by omega)
  have h2 := Int.lt_tmod_of_pos v (show 0 < n by omega)
  have HP := Lib.hid (place_eq v n hn)
  go_enter Try.func13, Try.ntmps13
  go_wp2
  all_goals go_ret
  · have h3 : v.tmod n < 0 := by assumption
    rw [HP.out, if_pos h3]
    exact ⟨rfl, rfl⟩
  · have h3 : 0 ≤ v.tmod n := by assumption
    rw [HP.out, if_neg (by omega)]
    exact ⟨rfl, rfl⟩
def up (v : Int) (t : Nat) : Int := IntKind.u64.wrap v / 256 ^ t
theorem up_zero (v : Int) : up v 0 = IntKind.u64.wrap v := by simp [up]
theorem up_succ (v : Int) (t : Nat) : up v (t + 1) = up v t / 256 := by
  unfold up
  rw [Int.pow_succ, Int.ediv_ediv_of_nonneg (Int.le_of_lt (Int.pow_pos (by decide)))]
theorem up_bd (v : Int) (t : Nat) : 0 ≤ up v t ∧ up v t ≤ 18446744073709551615 := by
  have h : 0 ≤ IntKind.u64.wrap v ∧ IntKind.u64.wrap v ≤ 18446744073709551615 := by
    simp [IntKind.wrap, IntKind.bits, IntKind.signed]; omega
  have hp : (0 : Int) < 256 ^ t := Int.pow_pos (by decide)
  unfold up
  exact ⟨Int.ediv_nonneg h.1 (by omega), Int.le_trans (Int.ediv_le_self _ h.1) h.2⟩
theorem up_byte (v : Int) (t : Nat) (ht : t < 8) : up v t % 256 = v / 2 ^ (8 * t) % 256 := by
  have hw : IntKind.u64.wrap v = v % 18446744073709551616 := by simp [IntKind.wrap, IntKind.bits, IntKind.signed]
  unfold up
  rw [hw]
  have h : t = 0 ∨ t = 1 ∨ t = 2 ∨ t = 3 ∨ t = 4 ∨ t = 5 ∨ t = 6 ∨ t = 7 := by omega
  rcases h with rfl | rfl | rfl | rfl | rfl | rfl | rfl | rfl <;> simp <;> omega
set_option maxHeartbeats 400000 in
theorem rput_any (v k : Int) (w : World)
    (hv : -9223372036854775808 ≤ v) (hv2 : v ≤ 9223372036854775807) (hk : -9223372036854775808 ≤ k) (hk2 : k ≤ 9223372036854775807) :
    Calls Try.prog 25 #[.int .i64 v, .int .i64 k] w (Res w (putB v (min k 8).toNat)) := by
  obtain ⟨i0, hi, hz0, hz1, hz2⟩ := info_parts infoB
  have hm8 : (min k 8).toNat ≤ 8 := by omega
  have hmk : (min k 8).toNat ≤ k ∨ (min k 8).toNat ≤ 0 := by omega
  have hmj : k ≤ (min k 8).toNat ∨ 8 ≤ (min k 8).toNat := by omega
  generalize (min k 8).toNat = m at *
  have H0 := Lib.hid (up_zero v)
  go_enter Try.func25, Try.ntmps25
  go_wp2
  go_loopw [5, 6, 7] (fun b u j wr => ∃ t : Nat, t ≤ m ∧ j = .int .i64 (t : Int) ∧ u = .int .u64 (up v t) ∧ Mine wr w.heap.size 5 1 b t ((putB v t).map bv) ∧ Below w.heap.size w wr)
    (fun _ _ j _ => 8 - (intOf j).toNat)
  case atStart => exact ⟨0, by omega, rfl, by rw [H0.out], Mine.nil, Below.refl _ _⟩
  case round =>
    obtain ⟨t, ht, rfl, rfl, hmine, hbel⟩ := hrel
    obtain ⟨A', c', rfl, _⟩ := hmine.form
    by_cases hlt : t < m
    · have htI0 : (t : Int) < 8 := by omega
      have htI : (t : Int) < k := by omega
      have hsz := hbel.size
      obtain ⟨hu0, hu1⟩ := up_bd v t
      have HB := Lib.hid (up_byte v t (by omega))
      have HS := Lib.hid (up_succ v t)
      go_wp2_with (at_builtin; refine wpList_append_mine rfl (.tmp 19) (.tmp 23) _ _ rfl w.heap.size 5 i0 (.int .u8 0) 1 1 hz1 hz2 rfl (by decide) _ _ _ rfl (hmine.alloc _) _ 1 [.int .u8 (up v t % 256)] rfl (Gives.elem Try.underlying22 hi hz0 hz1 _ rfl) (by simp only [maxLen]; omega) (by omega) (by simp; omega) ?_; intro A2 c2 w2 hm2 hg2 hb2 hat2 hown2)
      go_roundw
      case rel =>
        refine ⟨t + 1, by omega, by go_num, by rw [HS.out], ?_, (hbel.alloc hsz _).trans hb2⟩
        rw [HB.out] at hm2
        have := put_step (n := 0) (l := []) (by simpa using hm2)
        simpa using this
      case measure => simp [intOf]; omega
    · have htm : t = m := by omega
      have HM := Lib.hid hmine
      have HT := Lib.hid htm
      clear hmine htm
      by_cases hk3 : (t : Int) < k
      · have h8 : (8 : Int) ≤ (t : Int) := by omega
        go_wp2
        go_ret
        have hmine := HM.out
        rw [HT.out] at hmine
        rw [HT.out]
        exact res_mine (by rw [putB_len]) hmine hbel
      · have h8 : k ≤ (t : Int) := by omega
        have hd : decide ((t : Int) < k) = false := by simpa using h8
        go_wp2
        go_ret
        have hmine := HM.out
        rw [HT.out] at hmine
        rw [HT.out]
        exact res_mine (by rw [putB_len]) hmine hbel
/-- the bytes l, in a row of the call's own -/
def ResW (w : World) (l : List UInt8) (e : Ending) (w' : World) : Prop :=
  ∃ A c, e = .returned (.slice A l.length c) ∧ w'.ownsRow w.heap.size 5 1 (.slice A l.length c) l.length (l.map bv) ∧ Below w.heap.size w w'
theorem resW_mk {w w' : World} {A : Option Addr} {n c : Nat} {l : List UInt8} (hn : n = l.length) (h : w'.ownsRow w.heap.size 5 1 (.slice A n c) n (l.map bv)) (hb : Below w.heap.size w w') : ResW w l (.returned (.slice A n c)) w' := by
  subst hn
  exact ⟨A, c, rfl, h, hb⟩
theorem put_stepO {w2 : World} {B n t : Nat} {v : Int} {v' : Value} {l : List UInt8} (h : w2.ownsRow B 5 1 v' (n + t + 1) ((l ++ putB v t).map bv ++ [.int .u8 (v / 2 ^ (8 * t) % 256)])) :
    w2.ownsRow B 5 1 v' (n + (t + 1)) ((l ++ putB v (t + 1)).map bv) := by
  rw [putB_succ, ← List.append_assoc, List.map_append (l₂ := [_])]
  simp only [List.map_cons, List.map_nil]
  rw [bv_of _ (Int.emod_nonneg _ (by decide)) (Int.emod_lt_of_pos _ (by decide))]
  exact h
set_option maxHeartbeats 400000 in
theorem rput_own (v k : Int) (w : World)
    (hv : -9223372036854775808 ≤ v) (hv2 : v ≤ 9223372036854775807) (hk : -9223372036854775808 ≤ k) (hk2 : k ≤ 9223372036854775807) :
    Calls Try.prog 25 #[.int .i64 v, .int .i64 k] w (ResW w (putB v (min k 8).toNat)) := by
  obtain ⟨i0, hi, hz0, hz1, hz2⟩ := info_parts infoB
  have hm8 : (min k 8).toNat ≤ 8 := by omega
  have hmk : (min k 8).toNat ≤ k ∨ (min k 8).toNat ≤ 0 := by omega
  have hmj : k ≤ (min k 8).toNat ∨ 8 ≤ (min k 8).toNat := by omega
  generalize (min k 8).toNat = m at *
  have H0 := Lib.hid (up_zero v)
  go_enter Try.func25, Try.ntmps25
  go_wp2
  go_loopw [5, 6, 7] (fun b u j wr => ∃ t : Nat, t ≤ m ∧ j = .int .i64 (t : Int) ∧ u = .int .u64 (up v t) ∧ wr.ownsRow w.heap.size 5 1 b t ((putB v t).map bv) ∧ Below w.heap.size w wr)
    (fun _ _ j _ => 8 - (intOf j).toNat)
  case atStart => exact ⟨0, by omega, rfl, by rw [H0.out], World.ownsRow_nil _ _ _ _, Below.refl _ _⟩
  case round =>
    obtain ⟨t, ht, rfl, rfl, hmine, hbel⟩ := hrel
    obtain ⟨A', c', rfl, _⟩ := (show Mine wr w.heap.size 5 1 _ t ((putB v t).map bv) from .inr hmine).form
    by_cases hlt : t < m
    · have htI0 : (t : Int) < 8 := by omega
      have htI : (t : Int) < k := by omega
      have hsz := hbel.size
      obtain ⟨hu0, hu1⟩ := up_bd v t
      have HB := Lib.hid (up_byte v t (by omega))
      have HS := Lib.hid (up_succ v t)
      go_wp2_with (at_builtin; refine wpList_append_mine rfl (.tmp 19) (.tmp 23) _ _ rfl w.heap.size 5 i0 (.int .u8 0) 1 1 hz1 hz2 rfl (by decide) _ _ _ rfl (Mine.alloc (.inr hmine) _) _ 1 [.int .u8 (up v t % 256)] rfl (Gives.elem Try.underlying22 hi hz0 hz1 _ rfl) (by simp only [maxLen]; omega) (by omega) (by simp; omega) ?_; intro A2 c2 w2 hm2 hg2 hb2 hat2 hown2)
      go_roundw
      case rel =>
        refine ⟨t + 1, by omega, by go_num, by rw [HS.out], ?_, (hbel.alloc hsz _).trans hb2⟩
        replace hm2 := hown2 (.inl (by decide))
        rw [HB.out] at hm2
        have := put_stepO (n := 0) (l := []) (by simpa using hm2)
        simpa using this
      case measure => simp [intOf]; omega
    · have htm : t = m := by omega
      have HM := Lib.hid hmine
      have HT := Lib.hid htm
      clear hmine htm
      by_cases hk3 : (t : Int) < k
      · have h8 : (8 : Int) ≤ (t : Int) := by omega
        go_wp2
        go_ret
        have hmine := HM.out
        rw [HT.out] at hmine
        rw [HT.out]
        exact resW_mk (by rw [putB_len]) hmine hbel
      · have h8 : k ≤ (t : Int) := by omega
        have hd : decide ((t : Int) < k) = false := by simpa using h8
        go_wp2
        go_ret
        have hmine := HM.out
        rw [HT.out] at hmine
        rw [HT.out]
        exact resW_mk (by rw [putB_len]) hmine hbel
def lenV : Value → Nat | .slice _ n _ => n | _ => 0
theorem mine_snoc {w : World} {B n t : Nat} {e : TypeId} {v : Value} {xs : List Value} {u : Value} (h : Mine w B e 1 v (n + t + 1) (xs ++ List.replicate t u ++ [u])) : Mine w B e 1 v (n + (t + 1)) (xs ++ List.replicate (t + 1) u) := by
  rw [List.replicate_succ', ← List.append_assoc]
  exact h
def ResB (B : Nat) (w : World) (l : List UInt8) (e : Ending) (w' : World) : Prop :=
  ∃ A c, e = .returned (.slice A l.length c) ∧ Mine w' B 5 1 (.slice A l.length c) l.length (l.map bv) ∧ Below B w w'
set_option maxHeartbeats 400000 in
theorem rpad_any (B : Nat) (A : Option Addr) (l : List UInt8) (c : Nat) (k : Int) (w : World) (hB : B ≤ w.heap.size) (hm : Mine w B 5 1 (.slice A l.length c) l.length (l.map bv)) (hl : l.length ≤ 140737488355327) (hk : k ≤ 140737488355327) (hk0 : -9223372036854775808 ≤ k) :
    Calls Try.prog 26 #[.slice A l.length c, .int .i64 k] w (ResB B w (l ++ List.replicate (k.toNat - l.length) 0)) := by
  obtain ⟨i0, hi, hz0, hz1, hz2⟩ := info_parts infoB
  obtain ⟨m, hm1⟩ : ∃ m, m = k.toNat - l.length := ⟨_, rfl⟩
  rw [← hm1]
  have hm2 : (m : Int) + l.length ≤ k ∨ m ≤ 0 := by omega
  have hm3 : k ≤ (m : Int) + l.length := by omega
  have hm4 : m ≤ 140737488355327 := by omega
  have hm5 : m + l.length ≤ 140737488355327 := by omega
  clear hm1
  go_enter Try.func26, Try.ntmps26
  go_wp2
  go_loopw [0] (fun b wr => ∃ t A' c', t ≤ m ∧ b = .slice A' (l.length + t) c' ∧ Mine wr B 5 1 b (l.length + t) (l.map bv ++ List.replicate t (.int .u8 0)) ∧ Below B w wr)
    (fun b _ => l.length + m - lenV b)
  case atStart => exact ⟨0, A, c, by omega, rfl, by simpa using hm, Below.refl _ _⟩
  case round =>
    obtain ⟨t, A', c', ht, rfl, hmine, hbel⟩ := hrel
    by_cases hlt : t < m
    · have htI : (l.length : Int) + (t : Int) < k := by omega
      have hsz := hbel.size
      go_wp2_with (at_builtin; refine wpList_append_mine rfl (.tmp 9) (.tmp 10) _ _ rfl B 5 i0 (.int .u8 0) 1 1 hz1 hz2 rfl (by decide) _ _ _ rfl (hmine.alloc _) _ 1 [.int .u8 0] rfl (Gives.elem Try.underlying22 hi hz0 hz1 _ rfl) (by simp only [maxLen]; omega) (by omega) (by simp; omega) ?_; intro A2 c2 w2 hm2 hg2 hb2 hat2 hown2)
      go_roundw
      case rel => exact ⟨t + 1, A2, c2, by omega, rfl, mine_snoc hm2, (hbel.alloc (by omega) _).trans hb2⟩
      case measure => simp [lenV]; omega
    · have htI : k ≤ (l.length : Int) + (t : Int) := by omega
      have htm : t = m := by omega
      have HM := Lib.hid hmine
      have HT := Lib.hid htm
      clear hmine htm hm
      go_wp2
      go_ret
      have hmine := HM.out
      have ht := HT.out
      subst ht
      rw [pad_cells] at hmine
      have hlen : (l ++ List.replicate t (0 : UInt8)).length = l.length + t := by simp
      exact ⟨A', c', by rw [hlen]; rfl, by rw [hlen]; exact hmine, hbel⟩
def leN : List UInt8 → Nat
  | [] => 0
  | b :: l => b.toNat + 256 * leN l
def seg (l : List UInt8) (a k : Nat) : List UInt8 := (l.drop a).take k
theorem leN_append (x y : List UInt8) : leN (x ++ y) = leN x + 256 ^ x.length * leN y := by
  induction x with
  | nil => simp [leN]
  | cons b x ih =>
    simp only [List.cons_append, leN, ih, List.length_cons, Nat.pow_succ, Nat.mul_add]
    rw [Nat.mul_comm (256 ^ x.length) 256, Nat.mul_assoc, Nat.add_assoc]
theorem leN_lt (x : List UInt8) : leN x < 256 ^ x.length := by
  induction x with
  | nil => simp [leN]
  | cons b x ih =>
    have hb : b.toNat < 256 := UInt8.toNat_lt b
    simp only [leN, List.length_cons, Nat.pow_succ]
    omega
theorem seg_step (l : List UInt8) (a k t : Nat) (h : a + k ≤ l.length) (ht : t < k) : ∃ x : UInt8,
    (List.take (k * 1) (List.drop (a * 1) (l.map bv)))[t]? = some (.int .u8 (x.toNat : Int)) ∧ leN (seg l a (t + 1)) = leN (seg l a t) + 256 ^ t * x.toNat ∧ leN (seg l a t) < 256 ^ t := by
  have hl : (seg l a t).length = t := by simp [seg]; omega
  refine ⟨l[a + t], ?_, ?_, ?_⟩
  · rw [Nat.mul_one, Nat.mul_one, List.getElem?_take, if_pos ht, List.getElem?_drop, bv_at l (a + t) (by omega)]
    rfl
  · have : seg l a (t + 1) = seg l a t ++ [l[a + t]] := by
      unfold seg
      rw [List.take_succ_eq_append_getElem (by simp; omega)]
      simp
    rw [this, leN_append, hl]
    simp [leN]
  · have := leN_lt (seg l a t)
    rwa [hl] at this
theorem bits_or_nat (a b : Nat) (ha : a < 9223372036854775808) (hb : b < 9223372036854775808) : bits .or .i64 (a : Int) (b : Int) = ((a ||| b : Nat) : Int) := by
  have hx : a ||| b < 2 ^ 63 := Nat.or_lt_two_pow (by omega) (by omega)
  have e : ∀ n : Nat, n < 9223372036854775808 → (BitVec.ofInt 64 (n : Int)).toNat = n := fun n hn => by
    rw [BitVec.ofInt_natCast, BitVec.toNat_ofNat]; exact Nat.mod_eq_of_lt (by omega)
  show IntKind.i64.wrap ((BitVec.ofInt 64 (a : Int) ||| BitVec.ofInt 64 (b : Int)).toNat : Int) = _
  rw [BitVec.toNat_or, e a ha, e b hb, IntKind.wrap_i64]
  omega
theorem pow_256 (t : Nat) : (256 : Nat) ^ t = 2 ^ (8 * t) := by rw [Nat.pow_mul]
theorem or_shift (V x t : Nat) (hV : V < 256 ^ t) (hx : x < 256) (ht : t < 7) : bits .or .i64 (V : Int) (wrap64 ((x : Int) * 2 ^ (8 * t))) = ((V + 256 ^ t * x : Nat) : Int) := by
  have hp : (256 : Nat) ^ t ≤ 256 ^ 6 := Nat.pow_le_pow_right (by decide) (by omega)
  have hxp : x * 256 ^ t ≤ 255 * 256 ^ 6 := Nat.mul_le_mul (by omega) hp
  have hc : (x : Int) * 2 ^ (8 * t) = ((x * 256 ^ t : Nat) : Int) := by rw [pow_256]; push_cast; rfl
  have hs : x * 256 ^ t ≤ 71776119061217280 := by simpa using hxp
  have hV2 : V < 281474976710656 := by have : (256 : Nat) ^ 6 = 281474976710656 := by decide
                                       omega
  rw [hc, RowKit.wrap64, show ((((x * 256 ^ t : Nat) : Int) + 9223372036854775808) % 18446744073709551616 - 9223372036854775808) = ((x * 256 ^ t : Nat) : Int) from by omega, bits_or_nat V _ (by omega) (by omega)]
  congr 1
  rw [Nat.or_comm, Nat.mul_comm x, pow_256, ← Nat.two_pow_add_eq_or_of_lt (by rw [← pow_256]; exact hV)]
  omega
def getBad (n : Nat) (a k : Int) : Prop := k < 1 ∨ 7 < k ∨ a < 0 ∨ (n : Int) < a ∨ (n : Int) - a < k
instance (n : Nat) (a k : Int) : Decidable (getBad n a k) := by unfold getBad; infer_instance
set_option maxHeartbeats 400000 in
theorem get_yes (A : Option Addr) (l : List UInt8) (c : Nat) (a k : Int) (w : World) (hs : Sl w w.heap.size 1 A l.length (l.map bv)) (hc : l.length ≤ c) (hc2 : c ≤ maxLen)
    (ha : 0 ≤ a) (hk : 1 ≤ k) (hk7 : k ≤ 7) (hak : a + k ≤ (l.length : Int)) :
    Calls Try.prog 18 #[.slice A l.length c, .int .i64 a, .int .i64 k] w fun e w' => e = .returned (.tuple #[.int .i64 (leN (seg l a.toNat k.toNat) : Int), .bool true]) ∧ w = w' := by
  unfold maxLen at hc2
  obtain ⟨i0, hi, hz0, hz1, hz2⟩ := info_parts infoB
  obtain ⟨a, rfl⟩ := Int.eq_ofNat_of_zero_le ha
  obtain ⟨k, rfl⟩ := Int.eq_ofNat_of_zero_le (show 0 ≤ k by omega)
  simp only [Int.toNat_natCast]
  go_enter Try.func18, Try.ntmps18
  go_wp2_with ((with_reducible show wpList _ _ _ (⟨some 40, _, _, _, _, _⟩ :: _) _ _); refine wpList_slice_sl rfl 22 _ _ _ _ rfl 5 i0 1 Try.underlying22 hi hz1 _ _ _ rfl a k (c - a) (.inr ⟨_, _, rfl, rfl⟩) (.inr ⟨_, _, rfl, by omega⟩) (.inl ⟨rfl, by omega⟩) (by omega) (by omega) (by omega) hs ?_; intro A1 hs1)
  go_loop [8, 42] (fun v j => ∃ t : Nat, t ≤ k ∧ j = .int .i64 (t : Int) ∧ v = .int .i64 (leN (seg l a t) : Int)) (fun _ j => k - (intOf j).toNat)
  case atStart => exact ⟨0, by omega, rfl, rfl⟩
  case round =>
    obtain ⟨t, ht, rfl, rfl⟩ := hrel
    by_cases hlt : t < k
    · obtain ⟨b, off, rfl, hbB, hcell⟩ := hs1.at (by omega) (by omega)
      obtain ⟨x, hx, hstep, hlt2⟩ := seg_step l a k t (by omega) hlt
      have hcell1 := hcell t _ hx
      have hxb : (x.toNat : Int) ≤ 255 := by have := UInt8.toNat_lt x; omega
      have HS := Lib.hid hstep
      have HL := Lib.hid hlt2
      clear hstep hlt2 hcell hx hs hs1
      generalize leN (seg l a t) = V at *
      go_wp2
      go_round
      case measure => simp [intOf]; omega
      case rel =>
        refine ⟨t + 1, by omega, by go_num, ?_⟩
        rw [or_shift V x.toNat t HL.out (UInt8.toNat_lt x) (by omega), HS.out]
    · have htk : t = k := by omega
      have HT := Lib.hid htk
      have htI : (k : Int) ≤ (t : Int) := by omega
      clear htk hs hs1
      go_wp2
      go_ret2
      rw [HT.out]
      exact ⟨rfl, rfl⟩
set_option maxHeartbeats 400000 in
theorem get_no (A : Option Addr) (n c : Nat) (a k : Int) (w : World) (hc2 : n ≤ maxLen) (h : getBad n a k) (ha : -9223372036854775808 ≤ a) (ha2 : a ≤ 9223372036854775807) :
    Calls Try.prog 18 #[.slice A n c, .int .i64 a, .int .i64 k] w fun e w' => e = .returned (.tuple #[.int .i64 0, .bool false]) ∧ w = w' := by
  unfold maxLen at hc2
  have hn0 : (0 : Int) ≤ (n : Int) := by omega
  have hn1 : (n : Int) ≤ 9223372036854775807 := by omega
  have hcase : k < 1 ∨ (1 ≤ k ∧ 7 < k) ∨ (1 ≤ k ∧ k ≤ 7 ∧ a < 0) ∨ (1 ≤ k ∧ k ≤ 7 ∧ 0 ≤ a ∧ (n : Int) < a) ∨ (1 ≤ k ∧ k ≤ 7 ∧ 0 ≤ a ∧ a ≤ (n : Int) ∧ (n : Int) - a < k) := by
    unfold getBad at h
    omega
  clear h
  rcases hcase with h | ⟨h, h1⟩ | ⟨h, h1, h2⟩ | ⟨h, h1, h2, h3⟩ | ⟨h, h1, h2, h3, h4⟩
  all_goals
    go_enter Try.func18, Try.ntmps18
    go_wp2
    go_ret2
    exact ⟨rfl, rfl⟩
theorem seg_back (l : List UInt8) (a k j : Nat) (h : a + k ≤ l.length) (hj : j < k) (hk : k ≤ 7) : ∃ x : UInt8,
    (l.map bv)[a + j]? = some (.int .u8 (x.toNat : Int)) ∧ leN (seg l (a + j) (k - j)) = 256 * leN (seg l (a + (j + 1)) (k - (j + 1))) + x.toNat ∧ leN (seg l (a + (j + 1)) (k - (j + 1))) ≤ 281474976710655 := by
  refine ⟨l[a + j], ?_, ?_, ?_⟩
  · rw [bv_at l (a + j) (by omega)]; rfl
  · have : seg l (a + j) (k - j) = l[a + j] :: seg l (a + (j + 1)) (k - (j + 1)) := by
      unfold seg
      rw [List.drop_eq_getElem_cons (by omega), show k - j = (k - (j + 1)) + 1 by omega, List.take_succ_cons]
      rfl
    rw [this]
    simp only [leN]
    omega
  · have h1 := leN_lt (seg l (a + (j + 1)) (k - (j + 1)))
    have h2 : (seg l (a + (j + 1)) (k - (j + 1))).length ≤ 6 := by simp [seg]; omega
    have h3 : (256 : Nat) ^ (seg l (a + (j + 1)) (k - (j + 1))).length ≤ 256 ^ 6 := Nat.pow_le_pow_right (by decide) h2
    have h4 : (256 : Nat) ^ 6 = 281474976710656 := by decide
    omega
set_option maxHeartbeats 400000 in
theorem rget_yes (A : Option Addr) (l : List UInt8) (c : Nat) (a k : Int) (w : World) (hs : Sl w w.heap.size 1 A l.length (l.map bv)) (hc2 : l.length ≤ maxLen)
    (ha : 0 ≤ a) (hk : 1 ≤ k) (hk7 : k ≤ 7) (hak : a + k ≤ (l.length : Int)) :
    Calls Try.prog 19 #[.slice A l.length c, .int .i64 a, .int .i64 k] w fun e w' => e = .returned (.tuple #[.int .i64 (leN (seg l a.toNat k.toNat) : Int), .bool true]) ∧ w = w' := by
  unfold maxLen at hc2
  obtain ⟨a, rfl⟩ := Int.eq_ofNat_of_zero_le ha
  obtain ⟨k, rfl⟩ := Int.eq_ofNat_of_zero_le (show 0 ≤ k by omega)
  simp only [Int.toNat_natCast]
  obtain ⟨b, off, rfl, hbB, hcell⟩ := hs.at (by omega) (by omega)
  have HC := Lib.hid hcell
  clear hs hcell
  go_enter Try.func19, Try.ntmps19
  go_wp2
  go_loop [8, 9] (fun v i => ∃ j : Nat, j ≤ k ∧ i = .int .i64 ((j : Int) - 1) ∧ v = .int .i64 (leN (seg l (a + j) (k - j)) : Int)) (fun _ i => (intOf i + 1).toNat)
  case atStart => exact ⟨k, by omega, rfl, by simp [seg, leN]⟩
  case round =>
    obtain ⟨j, hj, rfl, rfl⟩ := hrel
    rcases Nat.eq_zero_or_pos j with h0 | h0
    · subst h0
      go_wp2
      go_ret2
      exact ⟨rfl, rfl⟩
    · obtain ⟨j, rfl⟩ : ∃ j', j = j' + 1 := ⟨j - 1, by omega⟩
      have e : (((j + 1 : Nat) : Int) - 1) = (j : Int) := by omega
      rw [e]
      clear e
      obtain ⟨x, hx, hstep, hlt2⟩ := seg_back l a k j (by omega) (by omega) (by omega)
      have hcell1 := HC.out (a + j) _ hx
      have hxb : (x.toNat : Int) ≤ 255 := by have := UInt8.toNat_lt x; omega
      have HS := Lib.hid hstep
      clear hstep hx
      generalize leN (seg l (a + (j + 1)) (k - (j + 1))) = V at *
      have hV : (V : Int) ≤ 281474976710655 := by omega
      go_wp2
      go_round
      case measure => simp [intOf]
      case rel => exact ⟨j, by omega, rfl, by rw [HS.out]; go_num⟩
set_option maxHeartbeats 400000 in
theorem rget_no (A : Option Addr) (n c : Nat) (a k : Int) (w : World) (hc2 : n ≤ maxLen) (h : getBad n a k) (ha : -9223372036854775808 ≤ a) (ha2 : a ≤ 9223372036854775807) :
    Calls Try.prog 19 #[.slice A n c, .int .i64 a, .int .i64 k] w fun e w' => e = .returned (.tuple #[.int .i64 0, .bool false]) ∧ w = w' := by
  unfold maxLen at hc2
  have hn0 : (0 : Int) ≤ (n : Int) := by omega
  have hn1 : (n : Int) ≤ 9223372036854775807 := by omega
  have hcase : k < 1 ∨ (1 ≤ k ∧ 7 < k) ∨ (1 ≤ k ∧ k ≤ 7 ∧ a < 0) ∨ (1 ≤ k ∧ k ≤ 7 ∧ 0 ≤ a ∧ (n : Int) < a) ∨ (1 ≤ k ∧ k ≤ 7 ∧ 0 ≤ a ∧ a ≤ (n : Int) ∧ (n : Int) - a < k) := by
    unfold getBad at h
    omega
  clear h
  rcases hcase with h | ⟨h, h1⟩ | ⟨h, h1, h2⟩ | ⟨h, h1, h2, h3⟩ | ⟨h, h1, h2, h3, h4⟩
  all_goals
    go_enter Try.func19, Try.ntmps19
    go_wp2
    go_ret2
    exact ⟨rfl, rfl⟩
theorem own_set {w : World} {base g n c : Nat} {e : TypeId} {L : List UInt8} (h : w.ownsRow base e 1 (.slice (some ⟨g, 0, none⟩) n c) n (L.map bv)) (j : Nat) (y : UInt8) :
    (w.setCell ⟨g, j, none⟩ (bv y)).ownsRow base e 1 (.slice (some ⟨g, 0, none⟩) n c) n ((L.set j y).map bv) := by
  have := (h.stored j (bv y)).1
  rwa [← List.map_set] at this
end Go.Proofs.Ytbhpkknimjmpjaa.Wi
