/-
  'BitsUndoes' walked: a block that is set, and set back, leaves the map.
-/
import Derived.Test.YtipdaecihfkonaaBit2
import Derived.Test.YtipdaecihfkonaaPlace
namespace Go.Proofs.Ytipdaecihfkonaa.Bt
open Go.RowKit Wd By Sp Fl Ga Pl
set_option linter.unusedVariables false
attribute [local go_sem] str_toList str_append str_size

theorem used_bit {L : List UInt8} (hl : L.length = 128) {n : Nat} (h : n < 1024) : usedB L (n : Int) = bitN L n := by
  unfold usedB
  rw [hl]
  have e1 : decide ((n : Int) < 0) = false := by simp
  have e2 : decide (1024 ≤ (n : Int)) = false := by simp; omega
  rw [e1, e2, Int.toNat_natCast]
  simp
/-- two maps with the same bits are the same -/
theorem map_ext {L M : List UInt8} (hl : L.length = 128) (hm : M.length = 128) (h : ∀ n, n < 1024 → bitN L n = bitN M n) : L = M := by
  apply List.ext_getElem (by omega)
  intro i h1 h2
  apply UInt8.toNat_inj.1
  apply Nat.eq_of_testBit_eq
  intro j
  by_cases hj : j < 8
  · have := h (8 * i + j) (by omega)
    unfold bitN at this
    rw [show (8 * i + j) / 8 = i by omega, show (8 * i + j) % 8 = j by omega, List.getD_eq_getElem?_getD, List.getElem?_eq_getElem h1, List.getD_eq_getElem?_getD, List.getElem?_eq_getElem h2] at this
    exact this
  · have e : ∀ x : UInt8, x.toNat.testBit j = false := fun x => Nat.testBit_lt_two_pow (Nat.lt_of_lt_of_le (UInt8.toNat_lt x) (Nat.pow_le_pow_right (by decide) (by omega : 8 ≤ j)))
    rw [e, e]
theorem set_back {L : List UInt8} (hl : L.length = 128) {k : Nat} (hk : k < 1024) (u : Bool) : setB (setB L k u) k (bitN L k) = L := by
  refine map_ext (by rw [setB_len, setB_len, hl]) hl fun n hn => ?_
  rw [bit_set (by rw [setB_len, hl]) hk, bit_set hl hk]
  by_cases h : n = k
  · rw [if_pos h, h]
  · rw [if_neg h, if_neg h]

set_option maxRecDepth 20000 in
set_option maxHeartbeats 3200000 in
theorem undoes_walk (Ao : Option Addr) (old : List UInt8) (co : Nat) (a o : Int) (w : World)
    (ho : Sl w w.heap.size 1 Ao old.length (old.map bv)) (hco : old.length ≤ co) (hod : old.length ≤ 140737488355328)
    (h1 : -9223372036854775808 ≤ a) (h2 : a ≤ 9223372036854775807) (h3 : -9223372036854775808 ≤ o) (h4 : o ≤ 9223372036854775807) :
    Calls Try.prog 4 #[.slice Ao old.length co, .int .i64 a, .int .i64 o] w fun e w' => e = .returned (.bool true) ∧ Below w.heap.size w w' := by
  have HO0 := Lib.hid ho
  clear ho
  have P1 := Lib.hid (fun w => place_any a 1024 w (by omega) (by omega) h1 h2)
  obtain ⟨p0, p1⟩ := place_bd a 1024 (by omega)
  generalize placeZ a 1024 = k at *
  obtain ⟨k, rfl⟩ := Int.eq_ofNat_of_zero_le p0
  have P2 := Lib.hid (fun w => place_any o 1024 w (by omega) (by omega) h3 h4)
  obtain ⟨p2, p3⟩ := place_bd o 1024 (by omega)
  generalize placeZ o 1024 = m at *
  obtain ⟨m, rfl⟩ := Int.eq_ofNat_of_zero_le p2
  have hk : k < 1024 := by omega
  have hm : m < 1024 := by omega
  clear h1 h2 h3 h4
  have hov : (over old (List.replicate 128 0)).length = 128 := by rw [over_len]; simp
  obtain ⟨L, hL⟩ : ∃ L, L = over old (List.replicate 128 0) := ⟨_, rfl⟩
  rw [← hL] at hov
  have HLE := Lib.hid hL
  obtain ⟨u, hu⟩ : ∃ u, u = bitN L k := ⟨_, rfl⟩
  obtain ⟨v, hv⟩ : ∃ v, v = bitN L m := ⟨_, rfl⟩
  obtain ⟨L1, hL1⟩ : ∃ M, M = setB L k (!u) := ⟨_, rfl⟩
  have hl1 : L1.length = 128 := by rw [hL1, setB_len, hov]
  have hb1 : bitN L1 k = !u := by rw [hL1, bit_set hov hk, if_pos rfl]
  have hb2 : k ≠ m → bitN L1 m = v := fun hne => by rw [hL1, bit_set hov hk, if_neg (fun e => hne e.symm), hv]
  have hback : setB L1 k u = L := by rw [hL1, hu]; exact set_back hov hk _
  have S1 := Lib.hid (fun base g w ho => set_any (!u) base g 128 k L hov hk w ho)
  rw [← hL1] at S1
  have S2 := Lib.hid (fun base g w ho => set_any u base g 128 k L1 hl1 hk w ho)
  rw [hback] at S2
  have U1 := Lib.hid (fun A c w hs => used_any A L c (k : Int) w hs)
  rw [used_bit hov hk, ← hu, hov] at U1
  have U2 := Lib.hid (fun A c w hs => used_any A L c (m : Int) w hs)
  rw [used_bit hov hm, ← hv, hov] at U2
  have U3 := Lib.hid (fun A c w hs => used_any A L1 c (k : Int) w hs)
  rw [used_bit hl1 hk, hb1, hl1] at U3
  have U4 : Hid (k ≠ m → ∀ A c w, Sl w w.heap.size 1 A 128 (L1.map bv) → Calls Try.prog 17 #[.slice A 128 c, .int .i64 (m : Int)] w fun e w' => e = .returned (.bool v) ∧ w = w') := Lib.hid fun hne A c w hs => by
    have := used_any A L1 c (m : Int) w (by rw [hl1]; exact hs)
    rw [used_bit hl1 hm, hb2 hne, hl1] at this
    exact this
  have HOV := Lib.hid hov
  clear hov hL hu hv hL1 hl1 hb1 hb2 hback hk hm p0 p1 p2 p3
  by_cases hkm : k = m
  · have hne : ((k : Int) != (m : Int)) = false := by rw [hkm]; simp
    clear hkm U4
    cases u
    all_goals
      go_enter Try.func4, Try.ntmps4
      go_wp2_with (first
        | (refine wpList_make_bytes rfl _ _ rfl 128 (by decide) rfl rfl ?_; intro w2 hmk hmb hmlt)
        | (refine wpList_copy_bytes rfl _ _ rfl (M := List.replicate 128 0) (l := old) (by simp) rfl rfl hmk (HO0.out.on (Nat.le_refl _) hmb) ?_; intro w1 v1 hcp hon; rw [← HLE.out] at hcp)
        | ((with_reducible show wpList _ _ _ (⟨some 18, _, _, _, _, _⟩ :: _) _ _); refine wpList_convert_sl rfl _ _ _ _ rfl Try.underlying24 Try.underlying5 Try.underlying9 _ _ _ L rfl (Sl.own hcp) rfl ?_))
      have HB1 := Lib.hid (hon.below hmb (Nat.le_refl _))
      have HO1 := Lib.hid hcp
      have hlt0 : w.heap.size < w1.heap.size := Nat.lt_of_lt_of_le hmlt hon.size
      clear hcp hon hmk hmb
      obtain ⟨g, hg⟩ : ∃ g, g = w.heap.size := ⟨_, rfl⟩
      rw [← hg] at HO1 hlt0 ⊢
      have HG := Lib.hid hg
      clear hg
      refine (P1.out _).mono ?_
      rintro e w' ⟨rfl, rfl⟩
      go_wp2_with fail
      refine (P2.out _).mono ?_
      rintro e w' ⟨rfl, rfl⟩
      go_wp2_with fail
      refine (U1.out _ _ _ (Sl.own HO1.out)).mono ?_
      rintro e w' ⟨rfl, rfl⟩
      go_wp2_with fail
      refine (U2.out _ _ _ (Sl.own HO1.out)).mono ?_
      rintro e w' ⟨rfl, rfl⟩
      go_wp2_with fail
      refine (S1.out _ _ _ HO1.out).mono ?_
      rintro e w2 ⟨rfl, ho2, hon2⟩
      have HO2 := Lib.hid ho2
      have HB2 := Lib.hid (hon2.below HB1.out (Nat.le_of_eq HG.out.symm))
      clear ho2 hon2
      go_wp2_with fail
      refine (U3.out _ _ _ (Sl.own HO2.out)).mono ?_
      rintro e w' ⟨rfl, rfl⟩
      go_wp2_with fail
      refine (S2.out _ _ _ HO2.out).mono ?_
      rintro e w3 ⟨rfl, ho3, hon3⟩
      have HO3 := Lib.hid ho3
      have HB3 := Lib.hid (hon3.below HB2.out (Nat.le_of_eq HG.out.symm))
      clear ho3 hon3
      go_wp2_with ((with_reducible show wpList _ _ _ (⟨some 60, _, _, _, _, _⟩ :: _) _ _); refine wpList_convert_sl rfl _ _ _ _ rfl Try.underlying24 Try.underlying5 Try.underlying9 _ _ _ L rfl (Sl.own HO3.out) rfl ?_)
      refine (U1.out _ _ _ (Sl.own HO3.out)).mono ?_
      rintro e w' ⟨rfl, rfl⟩
      go_wp2_with fail
      refine (awake_any _).mono ?_
      rintro e w7 ⟨rfl, hb7⟩
      have HB7 := Lib.hid hb7
      clear hb7
      go_wp2_with fail
      go_ret
      exact ⟨rfl, HB3.out.trans (HB7.out.mono HB3.out.size)⟩
  · have hne : ((k : Int) != (m : Int)) = true := by rw [bne_iff_ne]; omega
    replace U4 := Lib.hid (U4.out hkm)
    clear hkm
    cases u <;> cases v
    all_goals
      go_enter Try.func4, Try.ntmps4
      go_wp2_with (first
        | (refine wpList_make_bytes rfl _ _ rfl 128 (by decide) rfl rfl ?_; intro w2 hmk hmb hmlt)
        | (refine wpList_copy_bytes rfl _ _ rfl (M := List.replicate 128 0) (l := old) (by simp) rfl rfl hmk (HO0.out.on (Nat.le_refl _) hmb) ?_; intro w1 v1 hcp hon; rw [← HLE.out] at hcp)
        | ((with_reducible show wpList _ _ _ (⟨some 18, _, _, _, _, _⟩ :: _) _ _); refine wpList_convert_sl rfl _ _ _ _ rfl Try.underlying24 Try.underlying5 Try.underlying9 _ _ _ L rfl (Sl.own hcp) rfl ?_))
      have HB1 := Lib.hid (hon.below hmb (Nat.le_refl _))
      have HO1 := Lib.hid hcp
      have hlt0 : w.heap.size < w1.heap.size := Nat.lt_of_lt_of_le hmlt hon.size
      clear hcp hon hmk hmb
      obtain ⟨g, hg⟩ : ∃ g, g = w.heap.size := ⟨_, rfl⟩
      rw [← hg] at HO1 hlt0 ⊢
      have HG := Lib.hid hg
      clear hg
      refine (P1.out _).mono ?_
      rintro e w' ⟨rfl, rfl⟩
      go_wp2_with fail
      refine (P2.out _).mono ?_
      rintro e w' ⟨rfl, rfl⟩
      go_wp2_with fail
      refine (U1.out _ _ _ (Sl.own HO1.out)).mono ?_
      rintro e w' ⟨rfl, rfl⟩
      go_wp2_with fail
      refine (U2.out _ _ _ (Sl.own HO1.out)).mono ?_
      rintro e w' ⟨rfl, rfl⟩
      go_wp2_with fail
      refine (S1.out _ _ _ HO1.out).mono ?_
      rintro e w2 ⟨rfl, ho2, hon2⟩
      have HO2 := Lib.hid ho2
      have HB2 := Lib.hid (hon2.below HB1.out (Nat.le_of_eq HG.out.symm))
      clear ho2 hon2
      go_wp2_with fail
      refine (U3.out _ _ _ (Sl.own HO2.out)).mono ?_
      rintro e w' ⟨rfl, rfl⟩
      go_wp2_with fail
      refine (U4.out _ _ _ (Sl.own HO2.out)).mono ?_
      rintro e w' ⟨rfl, rfl⟩
      go_wp2_with fail
      refine (S2.out _ _ _ HO2.out).mono ?_
      rintro e w3 ⟨rfl, ho3, hon3⟩
      have HO3 := Lib.hid ho3
      have HB3 := Lib.hid (hon3.below HB2.out (Nat.le_of_eq HG.out.symm))
      clear ho3 hon3
      go_wp2_with ((with_reducible show wpList _ _ _ (⟨some 60, _, _, _, _, _⟩ :: _) _ _); refine wpList_convert_sl rfl _ _ _ _ rfl Try.underlying24 Try.underlying5 Try.underlying9 _ _ _ L rfl (Sl.own HO3.out) rfl ?_)
      refine (U1.out _ _ _ (Sl.own HO3.out)).mono ?_
      rintro e w' ⟨rfl, rfl⟩
      go_wp2_with fail
      refine (awake_any _).mono ?_
      rintro e w7 ⟨rfl, hb7⟩
      have HB7 := Lib.hid hb7
      clear hb7
      go_wp2_with fail
      go_ret
      exact ⟨rfl, HB3.out.trans (HB7.out.mono HB3.out.size)⟩
end Go.Proofs.Ytipdaecihfkonaa.Bt
