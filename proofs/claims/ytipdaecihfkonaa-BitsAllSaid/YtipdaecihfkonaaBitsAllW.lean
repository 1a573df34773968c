/-
  'BitsAll' walked: any map: what is used, free, in stretches, taken.
-/
import Derived.Test.YtipdaecihfkonaaAll4
import Derived.Test.YtipdaecihfkonaaBitF
import Derived.Test.YtipdaecihfkonaaInts
namespace Go.Proofs.Ytipdaecihfkonaa.Bt
open Fl Go.RowKit Ga Wd Sp By
set_option linter.unusedVariables false

theorem IntsR.le (L : List UInt8) (blocks n : Int) : (takeL L blocks n).length ≤ 1024 := by
  have h1 := frees_len L blocks (top blocks)
  have h2 := top_le blocks
  unfold takeL
  split
  · rw [List.length_take]; omega
  · simp
/-- what the law asks of a map C of N bytes -/
structure Asks (C : List UInt8) (N : Nat) (blocks n : Int) (SP : Ps) (F T : List Int) (ok us : Bool) : Prop where
  cb : ∀ A c w, Sl w w.heap.size 1 A N (C.map bv) → N ≤ c → Calls Try.prog 13 #[.slice A N c] w fun e w' => ∃ A' c', e = .returned (.slice A' N c') ∧ Sl w' w'.heap.size 1 A' N (C.map bv) ∧ N ≤ c' ∧ Below w.heap.size w w'
  cm : ∀ A c w, Sl w w.heap.size 1 A N (C.map bv) → Calls Try.prog 11 #[.slice A N c] w (OwnT w (mapF fun i => usedB C (i : Int)))
  cf : ∀ A c w, Sl w w.heap.size 1 A N (C.map bv) → Calls Try.prog 19 #[.slice A N c, .int .i64 blocks] w fun e w' => ∃ A' c', e = .returned (.slice A' F.length c') ∧ Below w.heap.size w w'
  ct : ∀ A c w, Sl w w.heap.size 1 A N (C.map bv) → N ≤ c → Calls Try.prog 20 #[.slice A N c, .int .i64 blocks, .int .i64 n] w fun e w' => ∃ A' c', e = .returned (.tuple #[.slice A' T.length c', .bool ok]) ∧ Sl w' w'.heap.size 1 A' T.length (T.map (Value.int .i64)) ∧ Below w.heap.size w w'
  cu : ∀ A c w, Sl w w.heap.size 1 A N (C.map bv) → Calls Try.prog 21 #[.slice A N c, .int .i64 blocks, .int .i64 n] w fun e w' => ∃ A' c', e = .returned (.tuple #[.slice A' T.length c', .bool ok]) ∧ Sl w' w'.heap.size 1 A' T.length (T.map (Value.int .i64)) ∧ Below w.heap.size w w'
  ud : ∀ A c w, Sl w w.heap.size 1 A N (C.map bv) → Calls Try.prog 17 #[.slice A N c, .int .i64 n] w fun e w' => e = .returned (.bool us) ∧ w = w'
  fr : ∀ A c w, Sl w w.heap.size 1 A N (C.map bv) → N ≤ c → Calls Try.prog 18 #[.slice A N c, .int .i64 blocks] w fun e w' => e = .returned (.int .i64 (F.length : Int)) ∧ Below w.heap.size w w'
  sp : ∀ A c w, Sl w w.heap.size 1 A N (C.map bv) → N ≤ c → Calls Try.prog 23 #[.slice A N c, .int .i64 blocks] w (SpR w SP)
  rs : ∀ A c w, Sl w w.heap.size 1 A N (C.map bv) → Calls Try.prog 24 #[.slice A N c, .int .i64 blocks] w (SpR w SP)
  sc : ∀ A1 A2 c1 c2 w, Sl w w.heap.size 1 A1 SP.length (SP.map cv) → Sl w w.heap.size 1 A2 SP.length (SP.map cv) → Calls Try.prog 22 #[.slice A1 SP.length c1, .slice A2 SP.length c2] w fun e w' => e = .returned (.bool true) ∧ Below w.heap.size w w'
  si : ∀ A1 A2 c1 c2 w, Sl w w.heap.size 1 A1 T.length (T.map (Value.int .i64)) → Sl w w.heap.size 1 A2 T.length (T.map (Value.int .i64)) → Calls Try.prog 25 #[.slice A1 T.length c1, .slice A2 T.length c2] w fun e w' => e = .returned (.bool true) ∧ Below w.heap.size w w'
  ui : ∀ k : Nat, n = (k : Int) → k < 1024 → usedB C (k : Int) = us
  un : n < 0 ∨ 1024 ≤ n → us = true
theorem asks (C : List UInt8) (N : Nat) (hN : C.length = N) (hk : N ≤ 140737488355328) (blocks n : Int) : Asks C N blocks n (spans C blocks) (frees C blocks (top blocks)) (takeL C blocks n) (takeB C blocks n) (usedB C n) := by
  subst hN
  refine ⟨fun A c w hs hc => ?_, fun A c w hs => rmap_any A C c w hs hk, fun A c w hs => ?_, fun A c w hs hc => ?_, fun A c w hs => ?_, fun A c w hs => used_any A C c n w hs, fun A c w hs hc => free_any A C c blocks w hs hc, fun A c w hs hc => spans_any A C c blocks w hs hc, fun A c w hs => rspans_any A C c blocks w hs hk, fun A1 A2 c1 c2 w h1 h2 => ?_, fun A1 A2 c1 c2 w h1 h2 => ?_, fun k hk _ => by rw [hk], fun h => ?_⟩
  · refine (bytes_any A C c w hs hc hk).mono ?_
    rintro e w' ⟨A', c', rfl, hm, hb⟩
    obtain ⟨A2, c2, hv, h1, h2, h3⟩ := hm.form
    injection hv with hv1 hv2 hv3
    subst hv1; subst hv3
    exact ⟨A', c', rfl, h3, h1, hb⟩
  · refine (rfrees_any A C c blocks w hs hk).mono ?_
    rintro e w' ⟨A', c', rfl, _, _, _, hb⟩
    exact ⟨A', c', rfl, hb⟩
  · refine (take_any A C c blocks n w hs hc).mono ?_
    rintro e w' ⟨A', c', rfl, h1, _, _, hb⟩
    exact ⟨A', c', rfl, h1, hb⟩
  · refine (rtake_any A C c blocks n w hs hk).mono ?_
    rintro e w' ⟨A', c', rfl, h1, _, hb⟩
    exact ⟨A', c', rfl, h1, hb⟩
  · exact same_cs A1 A2 _ c1 c2 w (spans_st C blocks) h1 h2 (by have := spans_len C blocks; omega)
  · have hl := IntsR.le C blocks n
    have := Is.same_any A1 A2 _ _ c1 c2 w h1 h2 (by omega) (by omega)
    rwa [beq_self_eq_true] at this
  · unfold usedB
    rcases h with h | h <;> simp [h]

set_option maxRecDepth 50000 in
set_option maxHeartbeats 3200000 in
theorem all_no (A0 : Option Addr) (l : List UInt8) (c0 : Nat) (blocks n : Int) (w : World) (hs : Sl w w.heap.size 1 A0 l.length (l.map bv)) (hc : l.length ≤ c0) (hk : l.length ≤ 140737488355328) :
    Calls Try.prog 6 #[.slice A0 l.length c0, .bool false, .int .i64 blocks, .int .i64 n] w fun e w' => e = .returned (.bool true) ∧ Below w.heap.size w w' := by
  have HS := Lib.hid hs
  have CB := Lib.hid (bytes_any A0 l c0 w hs hc hk)
  obtain ⟨C, hC⟩ : ∃ C, C = l := ⟨_, rfl⟩
  obtain ⟨N, hN⟩ : ∃ N, N = l.length := ⟨_, rfl⟩
  have hCl : C.length = N := by rw [hC, hN]
  have HCE := Lib.hid hC
  have HA := Lib.hid (asks C N hCl (by omega) blocks n)
  generalize spans C blocks = SP at *
  generalize frees C blocks (top blocks) = F at *
  generalize takeL C blocks n = T at *
  generalize takeB C blocks n = ok at *
  generalize usedB C n = us at *
  clear hs hC hCl
  have hcase : n < 0 ∨ (0 ≤ n ∧ n < 1024) ∨ (0 ≤ n ∧ 1024 ≤ n) := by omega
  rcases hcase with hn0 | ⟨hn0, hn1⟩ | ⟨hn0, hn1⟩
  · go_enter Try.func6, Try.ntmps6
    go_wp2_with fail
    refine CB.out.mono ?_
    rintro e w0 ⟨Ab, cb, rfl, hmb, hb0⟩
    obtain ⟨A9', c9', hv9, hcc, _, hs9'⟩ := hmb.form
    injection hv9 with hv1 hv2 hv3
    subst hv1; subst hv3
    have HK := Lib.hid hb0
    have HC : Hid (Sl w0 w0.heap.size 1 Ab N (C.map bv)) := Lib.hid (by rw [hN, HCE.out]; exact hs9')
    rw [← hN] at hcc ⊢
    clear hs9' hmb hb0 CB HS hN
    go_wp2_with fail

    refine (HA.out.cb _ _ _ HC.out (by omega)).mono ?_
    rintro e w2 ⟨A2, c2, rfl, hs2, hc2, hb2⟩
    have HD := Lib.hid hs2
    replace HC := Lib.hid (HC.out.on (Nat.le_refl _) hb2)
    replace HK := Lib.hid (HK.out.trans (hb2.mono HK.out.size))
    clear hs2 hb2
    go_wp2_with fail
    refine (HA.out.cm _ _ _ HC.out).mono ?_
    rintro e w3 ⟨gm, rfl, hom, hb3⟩
    have HM := Lib.hid hom
    replace HD := Lib.hid (HD.out.on (Nat.le_refl _) hb3)
    replace HC := Lib.hid (HC.out.on (Nat.le_refl _) hb3)
    replace HK := Lib.hid (HK.out.trans (hb3.mono HK.out.size))
    clear hom hb3
    clear HM
    go_wp2_with fail
    refine (HA.out.cf _ _ _ HC.out).mono ?_
    rintro e w4 ⟨A4, c4, rfl, hb4⟩
    replace HD := Lib.hid (HD.out.on (Nat.le_refl _) hb4)
    replace HC := Lib.hid (HC.out.on (Nat.le_refl _) hb4)
    replace HK := Lib.hid (HK.out.trans (hb4.mono HK.out.size))
    clear hb4
    go_wp2_with fail
    refine (HA.out.ct _ _ _ HD.out hc2).mono ?_
    rintro e w5 ⟨A5, c5, rfl, hs5, hb5⟩
    have HT := Lib.hid hs5
    clear hs5
    replace HD := Lib.hid (HD.out.on (Nat.le_refl _) hb5)
    replace HC := Lib.hid (HC.out.on (Nat.le_refl _) hb5)
    replace HK := Lib.hid (HK.out.trans (hb5.mono HK.out.size))
    clear hb5
    go_wp2_with fail
    refine (HA.out.cu _ _ _ HC.out).mono ?_
    rintro e w6 ⟨A6, c6, rfl, hs6, hb6⟩
    have HU := Lib.hid hs6
    clear hs6
    replace HD := Lib.hid (HD.out.on (Nat.le_refl _) hb6)
    replace HC := Lib.hid (HC.out.on (Nat.le_refl _) hb6)
    replace HT := Lib.hid (HT.out.on (Nat.le_refl _) hb6)
    replace HK := Lib.hid (HK.out.trans (hb6.mono HK.out.size))
    clear hb6
    go_wp2_with fail
    refine (HA.out.ud _ _ _ HD.out).mono ?_
    rintro e w7 ⟨rfl, rfl⟩
    have hus := HA.out.un (by omega)
    subst hus
    go_wp2_with fail
    refine (HA.out.fr _ _ _ HD.out hc2).mono ?_
    rintro e w8 ⟨rfl, hb8⟩
    replace HD := Lib.hid (HD.out.on (Nat.le_refl _) hb8)
    replace HC := Lib.hid (HC.out.on (Nat.le_refl _) hb8)
    replace HT := Lib.hid (HT.out.on (Nat.le_refl _) hb8)
    replace HU := Lib.hid (HU.out.on (Nat.le_refl _) hb8)
    replace HK := Lib.hid (HK.out.trans (hb8.mono HK.out.size))
    clear hb8
    go_wp2_with fail
    refine (HA.out.sp _ _ _ HD.out hc2).mono ?_
    rintro e w9 ⟨A9, c9, rfl, hs9, hc9, hb9⟩
    have HP := Lib.hid hs9
    clear hs9
    replace HD := Lib.hid (HD.out.on (Nat.le_refl _) hb9)
    replace HC := Lib.hid (HC.out.on (Nat.le_refl _) hb9)
    replace HT := Lib.hid (HT.out.on (Nat.le_refl _) hb9)
    replace HU := Lib.hid (HU.out.on (Nat.le_refl _) hb9)
    replace HK := Lib.hid (HK.out.trans (hb9.mono HK.out.size))
    clear hb9
    go_wp2_with fail
    refine (HA.out.rs _ _ _ HC.out).mono ?_
    rintro e w10 ⟨A10, c10, rfl, hs10, hc10, hb10⟩
    have HQ := Lib.hid hs10
    clear hs10
    replace HD := Lib.hid (HD.out.on (Nat.le_refl _) hb10)
    replace HC := Lib.hid (HC.out.on (Nat.le_refl _) hb10)
    replace HT := Lib.hid (HT.out.on (Nat.le_refl _) hb10)
    replace HU := Lib.hid (HU.out.on (Nat.le_refl _) hb10)
    replace HP := Lib.hid (HP.out.on (Nat.le_refl _) hb10)
    replace HK := Lib.hid (HK.out.trans (hb10.mono HK.out.size))
    clear hb10
    go_wp2_with fail
    refine (HA.out.sc _ _ _ _ _ HP.out HQ.out).mono ?_
    rintro e w11 ⟨rfl, hb11⟩
    replace HD := Lib.hid (HD.out.on (Nat.le_refl _) hb11)
    replace HC := Lib.hid (HC.out.on (Nat.le_refl _) hb11)
    replace HT := Lib.hid (HT.out.on (Nat.le_refl _) hb11)
    replace HU := Lib.hid (HU.out.on (Nat.le_refl _) hb11)
    replace HK := Lib.hid (HK.out.trans (hb11.mono HK.out.size))
    clear hb11
    go_wp2_with fail
    refine (HA.out.si _ _ _ _ _ HT.out HU.out).mono ?_
    rintro e w12 ⟨rfl, hb12⟩
    replace HD := Lib.hid (HD.out.on (Nat.le_refl _) hb12)
    replace HC := Lib.hid (HC.out.on (Nat.le_refl _) hb12)
    replace HK := Lib.hid (HK.out.trans (hb12.mono HK.out.size))
    clear hb12
    have hok : (ok == ok) = true := by simp
    go_wp2_with (first
      | ((with_reducible show wpList _ _ _ (⟨some 90, _, _, _, _, _⟩ :: _) _ _); refine wpList_convert_sl rfl _ _ _ _ rfl Try.underlying24 Try.underlying5 Try.underlying9 _ _ _ C rfl HD.out rfl ?_)
      | ((with_reducible show wpList _ _ _ (⟨some 92, _, _, _, _, _⟩ :: _) _ _); refine wpList_convert_sl rfl _ _ _ _ rfl Try.underlying24 Try.underlying5 Try.underlying9 _ _ _ C rfl HC.out rfl ?_)
      | (go_at_call 15; refine (awake_any _).mono ?_; rintro e w13 ⟨rfl, hb13⟩))
    go_ret
    exact ⟨rfl, HK.out.trans (hb13.mono HK.out.size)⟩
  · obtain ⟨nn, rfl⟩ := Int.eq_ofNat_of_zero_le hn0
    have hnn : nn < 1024 := by omega
    have hnnI : (nn : Int) < 1024 := by omega
    go_enter Try.func6, Try.ntmps6
    go_wp2_with fail
    refine CB.out.mono ?_
    rintro e w0 ⟨Ab, cb, rfl, hmb, hb0⟩
    obtain ⟨A9', c9', hv9, hcc, _, hs9'⟩ := hmb.form
    injection hv9 with hv1 hv2 hv3
    subst hv1; subst hv3
    have HK := Lib.hid hb0
    have HC : Hid (Sl w0 w0.heap.size 1 Ab N (C.map bv)) := Lib.hid (by rw [hN, HCE.out]; exact hs9')
    rw [← hN] at hcc ⊢
    clear hs9' hmb hb0 CB HS hN
    go_wp2_with fail

    refine (HA.out.cb _ _ _ HC.out (by omega)).mono ?_
    rintro e w2 ⟨A2, c2, rfl, hs2, hc2, hb2⟩
    have HD := Lib.hid hs2
    replace HC := Lib.hid (HC.out.on (Nat.le_refl _) hb2)
    replace HK := Lib.hid (HK.out.trans (hb2.mono HK.out.size))
    clear hs2 hb2
    go_wp2_with fail
    refine (HA.out.cm _ _ _ HC.out).mono ?_
    rintro e w3 ⟨gm, rfl, hom, hb3⟩
    have HM := Lib.hid hom
    replace HD := Lib.hid (HD.out.on (Nat.le_refl _) hb3)
    replace HC := Lib.hid (HC.out.on (Nat.le_refl _) hb3)
    replace HK := Lib.hid (HK.out.trans (hb3.mono HK.out.size))
    clear hom hb3
    obtain ⟨hcm, hfm⟩ := ownB_there HM.out nn hnn
    rw [mapF_at _ hnn, HA.out.ui nn rfl hnn] at hcm
    clear HM
    go_wp2_with fail
    refine (HA.out.cf _ _ _ HC.out).mono ?_
    rintro e w4 ⟨A4, c4, rfl, hb4⟩
    replace HD := Lib.hid (HD.out.on (Nat.le_refl _) hb4)
    replace HC := Lib.hid (HC.out.on (Nat.le_refl _) hb4)
    replace HK := Lib.hid (HK.out.trans (hb4.mono HK.out.size))
    clear hb4
    go_wp2_with fail
    refine (HA.out.ct _ _ _ HD.out hc2).mono ?_
    rintro e w5 ⟨A5, c5, rfl, hs5, hb5⟩
    have HT := Lib.hid hs5
    clear hs5
    replace HD := Lib.hid (HD.out.on (Nat.le_refl _) hb5)
    replace HC := Lib.hid (HC.out.on (Nat.le_refl _) hb5)
    replace HK := Lib.hid (HK.out.trans (hb5.mono HK.out.size))
    clear hb5
    go_wp2_with fail
    refine (HA.out.cu _ _ _ HC.out).mono ?_
    rintro e w6 ⟨A6, c6, rfl, hs6, hb6⟩
    have HU := Lib.hid hs6
    clear hs6
    replace HD := Lib.hid (HD.out.on (Nat.le_refl _) hb6)
    replace HC := Lib.hid (HC.out.on (Nat.le_refl _) hb6)
    replace HT := Lib.hid (HT.out.on (Nat.le_refl _) hb6)
    replace HK := Lib.hid (HK.out.trans (hb6.mono HK.out.size))
    clear hb6
    go_wp2_with fail
    refine (HA.out.ud _ _ _ HD.out).mono ?_
    rintro e w7 ⟨rfl, rfl⟩
    have hbb : (us == us) = true := by simp
    go_wp2_with fail
    refine (HA.out.fr _ _ _ HD.out hc2).mono ?_
    rintro e w8 ⟨rfl, hb8⟩
    replace HD := Lib.hid (HD.out.on (Nat.le_refl _) hb8)
    replace HC := Lib.hid (HC.out.on (Nat.le_refl _) hb8)
    replace HT := Lib.hid (HT.out.on (Nat.le_refl _) hb8)
    replace HU := Lib.hid (HU.out.on (Nat.le_refl _) hb8)
    replace HK := Lib.hid (HK.out.trans (hb8.mono HK.out.size))
    clear hb8
    go_wp2_with fail
    refine (HA.out.sp _ _ _ HD.out hc2).mono ?_
    rintro e w9 ⟨A9, c9, rfl, hs9, hc9, hb9⟩
    have HP := Lib.hid hs9
    clear hs9
    replace HD := Lib.hid (HD.out.on (Nat.le_refl _) hb9)
    replace HC := Lib.hid (HC.out.on (Nat.le_refl _) hb9)
    replace HT := Lib.hid (HT.out.on (Nat.le_refl _) hb9)
    replace HU := Lib.hid (HU.out.on (Nat.le_refl _) hb9)
    replace HK := Lib.hid (HK.out.trans (hb9.mono HK.out.size))
    clear hb9
    go_wp2_with fail
    refine (HA.out.rs _ _ _ HC.out).mono ?_
    rintro e w10 ⟨A10, c10, rfl, hs10, hc10, hb10⟩
    have HQ := Lib.hid hs10
    clear hs10
    replace HD := Lib.hid (HD.out.on (Nat.le_refl _) hb10)
    replace HC := Lib.hid (HC.out.on (Nat.le_refl _) hb10)
    replace HT := Lib.hid (HT.out.on (Nat.le_refl _) hb10)
    replace HU := Lib.hid (HU.out.on (Nat.le_refl _) hb10)
    replace HP := Lib.hid (HP.out.on (Nat.le_refl _) hb10)
    replace HK := Lib.hid (HK.out.trans (hb10.mono HK.out.size))
    clear hb10
    go_wp2_with fail
    refine (HA.out.sc _ _ _ _ _ HP.out HQ.out).mono ?_
    rintro e w11 ⟨rfl, hb11⟩
    replace HD := Lib.hid (HD.out.on (Nat.le_refl _) hb11)
    replace HC := Lib.hid (HC.out.on (Nat.le_refl _) hb11)
    replace HT := Lib.hid (HT.out.on (Nat.le_refl _) hb11)
    replace HU := Lib.hid (HU.out.on (Nat.le_refl _) hb11)
    replace HK := Lib.hid (HK.out.trans (hb11.mono HK.out.size))
    clear hb11
    go_wp2_with fail
    refine (HA.out.si _ _ _ _ _ HT.out HU.out).mono ?_
    rintro e w12 ⟨rfl, hb12⟩
    replace HD := Lib.hid (HD.out.on (Nat.le_refl _) hb12)
    replace HC := Lib.hid (HC.out.on (Nat.le_refl _) hb12)
    replace HK := Lib.hid (HK.out.trans (hb12.mono HK.out.size))
    clear hb12
    have hok : (ok == ok) = true := by simp
    go_wp2_with (first
      | ((with_reducible show wpList _ _ _ (⟨some 90, _, _, _, _, _⟩ :: _) _ _); refine wpList_convert_sl rfl _ _ _ _ rfl Try.underlying24 Try.underlying5 Try.underlying9 _ _ _ C rfl HD.out rfl ?_)
      | ((with_reducible show wpList _ _ _ (⟨some 92, _, _, _, _, _⟩ :: _) _ _); refine wpList_convert_sl rfl _ _ _ _ rfl Try.underlying24 Try.underlying5 Try.underlying9 _ _ _ C rfl HC.out rfl ?_)
      | (go_at_call 15; refine (awake_any _).mono ?_; rintro e w13 ⟨rfl, hb13⟩))
    go_ret
    exact ⟨rfl, HK.out.trans (hb13.mono HK.out.size)⟩
  · go_enter Try.func6, Try.ntmps6
    go_wp2_with fail
    refine CB.out.mono ?_
    rintro e w0 ⟨Ab, cb, rfl, hmb, hb0⟩
    obtain ⟨A9', c9', hv9, hcc, _, hs9'⟩ := hmb.form
    injection hv9 with hv1 hv2 hv3
    subst hv1; subst hv3
    have HK := Lib.hid hb0
    have HC : Hid (Sl w0 w0.heap.size 1 Ab N (C.map bv)) := Lib.hid (by rw [hN, HCE.out]; exact hs9')
    rw [← hN] at hcc ⊢
    clear hs9' hmb hb0 CB HS hN
    go_wp2_with fail

    refine (HA.out.cb _ _ _ HC.out (by omega)).mono ?_
    rintro e w2 ⟨A2, c2, rfl, hs2, hc2, hb2⟩
    have HD := Lib.hid hs2
    replace HC := Lib.hid (HC.out.on (Nat.le_refl _) hb2)
    replace HK := Lib.hid (HK.out.trans (hb2.mono HK.out.size))
    clear hs2 hb2
    go_wp2_with fail
    refine (HA.out.cm _ _ _ HC.out).mono ?_
    rintro e w3 ⟨gm, rfl, hom, hb3⟩
    have HM := Lib.hid hom
    replace HD := Lib.hid (HD.out.on (Nat.le_refl _) hb3)
    replace HC := Lib.hid (HC.out.on (Nat.le_refl _) hb3)
    replace HK := Lib.hid (HK.out.trans (hb3.mono HK.out.size))
    clear hom hb3
    clear HM
    go_wp2_with fail
    refine (HA.out.cf _ _ _ HC.out).mono ?_
    rintro e w4 ⟨A4, c4, rfl, hb4⟩
    replace HD := Lib.hid (HD.out.on (Nat.le_refl _) hb4)
    replace HC := Lib.hid (HC.out.on (Nat.le_refl _) hb4)
    replace HK := Lib.hid (HK.out.trans (hb4.mono HK.out.size))
    clear hb4
    go_wp2_with fail
    refine (HA.out.ct _ _ _ HD.out hc2).mono ?_
    rintro e w5 ⟨A5, c5, rfl, hs5, hb5⟩
    have HT := Lib.hid hs5
    clear hs5
    replace HD := Lib.hid (HD.out.on (Nat.le_refl _) hb5)
    replace HC := Lib.hid (HC.out.on (Nat.le_refl _) hb5)
    replace HK := Lib.hid (HK.out.trans (hb5.mono HK.out.size))
    clear hb5
    go_wp2_with fail
    refine (HA.out.cu _ _ _ HC.out).mono ?_
    rintro e w6 ⟨A6, c6, rfl, hs6, hb6⟩
    have HU := Lib.hid hs6
    clear hs6
    replace HD := Lib.hid (HD.out.on (Nat.le_refl _) hb6)
    replace HC := Lib.hid (HC.out.on (Nat.le_refl _) hb6)
    replace HT := Lib.hid (HT.out.on (Nat.le_refl _) hb6)
    replace HK := Lib.hid (HK.out.trans (hb6.mono HK.out.size))
    clear hb6
    go_wp2_with fail
    refine (HA.out.ud _ _ _ HD.out).mono ?_
    rintro e w7 ⟨rfl, rfl⟩
    have hus := HA.out.un (by omega)
    subst hus
    go_wp2_with fail
    refine (HA.out.fr _ _ _ HD.out hc2).mono ?_
    rintro e w8 ⟨rfl, hb8⟩
    replace HD := Lib.hid (HD.out.on (Nat.le_refl _) hb8)
    replace HC := Lib.hid (HC.out.on (Nat.le_refl _) hb8)
    replace HT := Lib.hid (HT.out.on (Nat.le_refl _) hb8)
    replace HU := Lib.hid (HU.out.on (Nat.le_refl _) hb8)
    replace HK := Lib.hid (HK.out.trans (hb8.mono HK.out.size))
    clear hb8
    go_wp2_with fail
    refine (HA.out.sp _ _ _ HD.out hc2).mono ?_
    rintro e w9 ⟨A9, c9, rfl, hs9, hc9, hb9⟩
    have HP := Lib.hid hs9
    clear hs9
    replace HD := Lib.hid (HD.out.on (Nat.le_refl _) hb9)
    replace HC := Lib.hid (HC.out.on (Nat.le_refl _) hb9)
    replace HT := Lib.hid (HT.out.on (Nat.le_refl _) hb9)
    replace HU := Lib.hid (HU.out.on (Nat.le_refl _) hb9)
    replace HK := Lib.hid (HK.out.trans (hb9.mono HK.out.size))
    clear hb9
    go_wp2_with fail
    refine (HA.out.rs _ _ _ HC.out).mono ?_
    rintro e w10 ⟨A10, c10, rfl, hs10, hc10, hb10⟩
    have HQ := Lib.hid hs10
    clear hs10
    replace HD := Lib.hid (HD.out.on (Nat.le_refl _) hb10)
    replace HC := Lib.hid (HC.out.on (Nat.le_refl _) hb10)
    replace HT := Lib.hid (HT.out.on (Nat.le_refl _) hb10)
    replace HU := Lib.hid (HU.out.on (Nat.le_refl _) hb10)
    replace HP := Lib.hid (HP.out.on (Nat.le_refl _) hb10)
    replace HK := Lib.hid (HK.out.trans (hb10.mono HK.out.size))
    clear hb10
    go_wp2_with fail
    refine (HA.out.sc _ _ _ _ _ HP.out HQ.out).mono ?_
    rintro e w11 ⟨rfl, hb11⟩
    replace HD := Lib.hid (HD.out.on (Nat.le_refl _) hb11)
    replace HC := Lib.hid (HC.out.on (Nat.le_refl _) hb11)
    replace HT := Lib.hid (HT.out.on (Nat.le_refl _) hb11)
    replace HU := Lib.hid (HU.out.on (Nat.le_refl _) hb11)
    replace HK := Lib.hid (HK.out.trans (hb11.mono HK.out.size))
    clear hb11
    go_wp2_with fail
    refine (HA.out.si _ _ _ _ _ HT.out HU.out).mono ?_
    rintro e w12 ⟨rfl, hb12⟩
    replace HD := Lib.hid (HD.out.on (Nat.le_refl _) hb12)
    replace HC := Lib.hid (HC.out.on (Nat.le_refl _) hb12)
    replace HK := Lib.hid (HK.out.trans (hb12.mono HK.out.size))
    clear hb12
    have hok : (ok == ok) = true := by simp
    go_wp2_with (first
      | ((with_reducible show wpList _ _ _ (⟨some 90, _, _, _, _, _⟩ :: _) _ _); refine wpList_convert_sl rfl _ _ _ _ rfl Try.underlying24 Try.underlying5 Try.underlying9 _ _ _ C rfl HD.out rfl ?_)
      | ((with_reducible show wpList _ _ _ (⟨some 92, _, _, _, _, _⟩ :: _) _ _); refine wpList_convert_sl rfl _ _ _ _ rfl Try.underlying24 Try.underlying5 Try.underlying9 _ _ _ C rfl HC.out rfl ?_)
      | (go_at_call 15; refine (awake_any _).mono ?_; rintro e w13 ⟨rfl, hb13⟩))
    go_ret
    exact ⟨rfl, HK.out.trans (hb13.mono HK.out.size)⟩

set_option maxRecDepth 50000 in
set_option maxHeartbeats 3200000 in
theorem all_yes (A0 : Option Addr) (l : List UInt8) (c0 : Nat) (blocks n : Int) (w : World) (hs : Sl w w.heap.size 1 A0 l.length (l.map bv)) (hc : l.length ≤ c0) (hk : l.length ≤ 140737488355328) :
    Calls Try.prog 6 #[.slice A0 l.length c0, .bool true, .int .i64 blocks, .int .i64 n] w fun e w' => e = .returned (.bool true) ∧ Below w.heap.size w w' := by
  have HS := Lib.hid hs
  have CB := Lib.hid (bytes_any A0 l c0 w hs hc hk)
  obtain ⟨C, hC⟩ : ∃ C, C = over l (List.replicate 128 0) := ⟨_, rfl⟩
  have hCl : C.length = 128 := by rw [hC, over_len]; simp
  have HCE := Lib.hid hC
  have HA := Lib.hid (asks C 128 hCl (by omega) blocks n)
  generalize spans C blocks = SP at *
  generalize frees C blocks (top blocks) = F at *
  generalize takeL C blocks n = T at *
  generalize takeB C blocks n = ok at *
  generalize usedB C n = us at *
  clear hs hC hCl
  have hcase : n < 0 ∨ (0 ≤ n ∧ n < 1024) ∨ (0 ≤ n ∧ 1024 ≤ n) := by omega
  rcases hcase with hn0 | ⟨hn0, hn1⟩ | ⟨hn0, hn1⟩
  · go_enter Try.func6, Try.ntmps6
    go_wp2_with fail
    refine CB.out.mono ?_
    rintro e w0 ⟨Ab, cb, rfl, hmb, hb0⟩
    go_wp2_with (first
      | (refine wpList_make_bytes rfl _ _ rfl 128 (by decide) rfl rfl ?_; intro w2 hmk hmb2 hmlt)
      | (refine wpList_copy_bytes rfl _ _ rfl (M := List.replicate 128 0) (l := l) (by simp) rfl rfl hmk ((HS.out.on (Nat.le_refl _) hb0).on (Nat.le_refl _) hmb2) ?_; intro w1 v1 hcp hon; rw [← HCE.out] at hcp))
    have HK := Lib.hid (hon.below (hb0.trans (hmb2.mono hb0.size)) hb0.size)
    have HC := Lib.hid (Sl.own hcp)
    clear hcp hon hmk hmb2 hmlt hmb hb0 CB HS

    refine (HA.out.cb _ _ _ HC.out (by omega)).mono ?_
    rintro e w2 ⟨A2, c2, rfl, hs2, hc2, hb2⟩
    have HD := Lib.hid hs2
    replace HC := Lib.hid (HC.out.on (Nat.le_refl _) hb2)
    replace HK := Lib.hid (HK.out.trans (hb2.mono HK.out.size))
    clear hs2 hb2
    go_wp2_with fail
    refine (HA.out.cm _ _ _ HC.out).mono ?_
    rintro e w3 ⟨gm, rfl, hom, hb3⟩
    have HM := Lib.hid hom
    replace HD := Lib.hid (HD.out.on (Nat.le_refl _) hb3)
    replace HC := Lib.hid (HC.out.on (Nat.le_refl _) hb3)
    replace HK := Lib.hid (HK.out.trans (hb3.mono HK.out.size))
    clear hom hb3
    clear HM
    go_wp2_with fail
    refine (HA.out.cf _ _ _ HC.out).mono ?_
    rintro e w4 ⟨A4, c4, rfl, hb4⟩
    replace HD := Lib.hid (HD.out.on (Nat.le_refl _) hb4)
    replace HC := Lib.hid (HC.out.on (Nat.le_refl _) hb4)
    replace HK := Lib.hid (HK.out.trans (hb4.mono HK.out.size))
    clear hb4
    go_wp2_with fail
    refine (HA.out.ct _ _ _ HD.out hc2).mono ?_
    rintro e w5 ⟨A5, c5, rfl, hs5, hb5⟩
    have HT := Lib.hid hs5
    clear hs5
    replace HD := Lib.hid (HD.out.on (Nat.le_refl _) hb5)
    replace HC := Lib.hid (HC.out.on (Nat.le_refl _) hb5)
    replace HK := Lib.hid (HK.out.trans (hb5.mono HK.out.size))
    clear hb5
    go_wp2_with fail
    refine (HA.out.cu _ _ _ HC.out).mono ?_
    rintro e w6 ⟨A6, c6, rfl, hs6, hb6⟩
    have HU := Lib.hid hs6
    clear hs6
    replace HD := Lib.hid (HD.out.on (Nat.le_refl _) hb6)
    replace HC := Lib.hid (HC.out.on (Nat.le_refl _) hb6)
    replace HT := Lib.hid (HT.out.on (Nat.le_refl _) hb6)
    replace HK := Lib.hid (HK.out.trans (hb6.mono HK.out.size))
    clear hb6
    go_wp2_with fail
    refine (HA.out.ud _ _ _ HD.out).mono ?_
    rintro e w7 ⟨rfl, rfl⟩
    have hus := HA.out.un (by omega)
    subst hus
    go_wp2_with fail
    refine (HA.out.fr _ _ _ HD.out hc2).mono ?_
    rintro e w8 ⟨rfl, hb8⟩
    replace HD := Lib.hid (HD.out.on (Nat.le_refl _) hb8)
    replace HC := Lib.hid (HC.out.on (Nat.le_refl _) hb8)
    replace HT := Lib.hid (HT.out.on (Nat.le_refl _) hb8)
    replace HU := Lib.hid (HU.out.on (Nat.le_refl _) hb8)
    replace HK := Lib.hid (HK.out.trans (hb8.mono HK.out.size))
    clear hb8
    go_wp2_with fail
    refine (HA.out.sp _ _ _ HD.out hc2).mono ?_
    rintro e w9 ⟨A9, c9, rfl, hs9, hc9, hb9⟩
    have HP := Lib.hid hs9
    clear hs9
    replace HD := Lib.hid (HD.out.on (Nat.le_refl _) hb9)
    replace HC := Lib.hid (HC.out.on (Nat.le_refl _) hb9)
    replace HT := Lib.hid (HT.out.on (Nat.le_refl _) hb9)
    replace HU := Lib.hid (HU.out.on (Nat.le_refl _) hb9)
    replace HK := Lib.hid (HK.out.trans (hb9.mono HK.out.size))
    clear hb9
    go_wp2_with fail
    refine (HA.out.rs _ _ _ HC.out).mono ?_
    rintro e w10 ⟨A10, c10, rfl, hs10, hc10, hb10⟩
    have HQ := Lib.hid hs10
    clear hs10
    replace HD := Lib.hid (HD.out.on (Nat.le_refl _) hb10)
    replace HC := Lib.hid (HC.out.on (Nat.le_refl _) hb10)
    replace HT := Lib.hid (HT.out.on (Nat.le_refl _) hb10)
    replace HU := Lib.hid (HU.out.on (Nat.le_refl _) hb10)
    replace HP := Lib.hid (HP.out.on (Nat.le_refl _) hb10)
    replace HK := Lib.hid (HK.out.trans (hb10.mono HK.out.size))
    clear hb10
    go_wp2_with fail
    refine (HA.out.sc _ _ _ _ _ HP.out HQ.out).mono ?_
    rintro e w11 ⟨rfl, hb11⟩
    replace HD := Lib.hid (HD.out.on (Nat.le_refl _) hb11)
    replace HC := Lib.hid (HC.out.on (Nat.le_refl _) hb11)
    replace HT := Lib.hid (HT.out.on (Nat.le_refl _) hb11)
    replace HU := Lib.hid (HU.out.on (Nat.le_refl _) hb11)
    replace HK := Lib.hid (HK.out.trans (hb11.mono HK.out.size))
    clear hb11
    go_wp2_with fail
    refine (HA.out.si _ _ _ _ _ HT.out HU.out).mono ?_
    rintro e w12 ⟨rfl, hb12⟩
    replace HD := Lib.hid (HD.out.on (Nat.le_refl _) hb12)
    replace HC := Lib.hid (HC.out.on (Nat.le_refl _) hb12)
    replace HK := Lib.hid (HK.out.trans (hb12.mono HK.out.size))
    clear hb12
    have hok : (ok == ok) = true := by simp
    go_wp2_with (first
      | ((with_reducible show wpList _ _ _ (⟨some 90, _, _, _, _, _⟩ :: _) _ _); refine wpList_convert_sl rfl _ _ _ _ rfl Try.underlying24 Try.underlying5 Try.underlying9 _ _ _ C rfl HD.out rfl ?_)
      | ((with_reducible show wpList _ _ _ (⟨some 92, _, _, _, _, _⟩ :: _) _ _); refine wpList_convert_sl rfl _ _ _ _ rfl Try.underlying24 Try.underlying5 Try.underlying9 _ _ _ C rfl HC.out rfl ?_)
      | (go_at_call 15; refine (awake_any _).mono ?_; rintro e w13 ⟨rfl, hb13⟩))
    go_ret
    exact ⟨rfl, HK.out.trans (hb13.mono HK.out.size)⟩
  · obtain ⟨nn, rfl⟩ := Int.eq_ofNat_of_zero_le hn0
    have hnn : nn < 1024 := by omega
    have hnnI : (nn : Int) < 1024 := by omega
    go_enter Try.func6, Try.ntmps6
    go_wp2_with fail
    refine CB.out.mono ?_
    rintro e w0 ⟨Ab, cb, rfl, hmb, hb0⟩
    go_wp2_with (first
      | (refine wpList_make_bytes rfl _ _ rfl 128 (by decide) rfl rfl ?_; intro w2 hmk hmb2 hmlt)
      | (refine wpList_copy_bytes rfl _ _ rfl (M := List.replicate 128 0) (l := l) (by simp) rfl rfl hmk ((HS.out.on (Nat.le_refl _) hb0).on (Nat.le_refl _) hmb2) ?_; intro w1 v1 hcp hon; rw [← HCE.out] at hcp))
    have HK := Lib.hid (hon.below (hb0.trans (hmb2.mono hb0.size)) hb0.size)
    have HC := Lib.hid (Sl.own hcp)
    clear hcp hon hmk hmb2 hmlt hmb hb0 CB HS

    refine (HA.out.cb _ _ _ HC.out (by omega)).mono ?_
    rintro e w2 ⟨A2, c2, rfl, hs2, hc2, hb2⟩
    have HD := Lib.hid hs2
    replace HC := Lib.hid (HC.out.on (Nat.le_refl _) hb2)
    replace HK := Lib.hid (HK.out.trans (hb2.mono HK.out.size))
    clear hs2 hb2
    go_wp2_with fail
    refine (HA.out.cm _ _ _ HC.out).mono ?_
    rintro e w3 ⟨gm, rfl, hom, hb3⟩
    have HM := Lib.hid hom
    replace HD := Lib.hid (HD.out.on (Nat.le_refl _) hb3)
    replace HC := Lib.hid (HC.out.on (Nat.le_refl _) hb3)
    replace HK := Lib.hid (HK.out.trans (hb3.mono HK.out.size))
    clear hom hb3
    obtain ⟨hcm, hfm⟩ := ownB_there HM.out nn hnn
    rw [mapF_at _ hnn, HA.out.ui nn rfl hnn] at hcm
    clear HM
    go_wp2_with fail
    refine (HA.out.cf _ _ _ HC.out).mono ?_
    rintro e w4 ⟨A4, c4, rfl, hb4⟩
    replace HD := Lib.hid (HD.out.on (Nat.le_refl _) hb4)
    replace HC := Lib.hid (HC.out.on (Nat.le_refl _) hb4)
    replace HK := Lib.hid (HK.out.trans (hb4.mono HK.out.size))
    clear hb4
    go_wp2_with fail
    refine (HA.out.ct _ _ _ HD.out hc2).mono ?_
    rintro e w5 ⟨A5, c5, rfl, hs5, hb5⟩
    have HT := Lib.hid hs5
    clear hs5
    replace HD := Lib.hid (HD.out.on (Nat.le_refl _) hb5)
    replace HC := Lib.hid (HC.out.on (Nat.le_refl _) hb5)
    replace HK := Lib.hid (HK.out.trans (hb5.mono HK.out.size))
    clear hb5
    go_wp2_with fail
    refine (HA.out.cu _ _ _ HC.out).mono ?_
    rintro e w6 ⟨A6, c6, rfl, hs6, hb6⟩
    have HU := Lib.hid hs6
    clear hs6
    replace HD := Lib.hid (HD.out.on (Nat.le_refl _) hb6)
    replace HC := Lib.hid (HC.out.on (Nat.le_refl _) hb6)
    replace HT := Lib.hid (HT.out.on (Nat.le_refl _) hb6)
    replace HK := Lib.hid (HK.out.trans (hb6.mono HK.out.size))
    clear hb6
    go_wp2_with fail
    refine (HA.out.ud _ _ _ HD.out).mono ?_
    rintro e w7 ⟨rfl, rfl⟩
    have hbb : (us == us) = true := by simp
    go_wp2_with fail
    refine (HA.out.fr _ _ _ HD.out hc2).mono ?_
    rintro e w8 ⟨rfl, hb8⟩
    replace HD := Lib.hid (HD.out.on (Nat.le_refl _) hb8)
    replace HC := Lib.hid (HC.out.on (Nat.le_refl _) hb8)
    replace HT := Lib.hid (HT.out.on (Nat.le_refl _) hb8)
    replace HU := Lib.hid (HU.out.on (Nat.le_refl _) hb8)
    replace HK := Lib.hid (HK.out.trans (hb8.mono HK.out.size))
    clear hb8
    go_wp2_with fail
    refine (HA.out.sp _ _ _ HD.out hc2).mono ?_
    rintro e w9 ⟨A9, c9, rfl, hs9, hc9, hb9⟩
    have HP := Lib.hid hs9
    clear hs9
    replace HD := Lib.hid (HD.out.on (Nat.le_refl _) hb9)
    replace HC := Lib.hid (HC.out.on (Nat.le_refl _) hb9)
    replace HT := Lib.hid (HT.out.on (Nat.le_refl _) hb9)
    replace HU := Lib.hid (HU.out.on (Nat.le_refl _) hb9)
    replace HK := Lib.hid (HK.out.trans (hb9.mono HK.out.size))
    clear hb9
    go_wp2_with fail
    refine (HA.out.rs _ _ _ HC.out).mono ?_
    rintro e w10 ⟨A10, c10, rfl, hs10, hc10, hb10⟩
    have HQ := Lib.hid hs10
    clear hs10
    replace HD := Lib.hid (HD.out.on (Nat.le_refl _) hb10)
    replace HC := Lib.hid (HC.out.on (Nat.le_refl _) hb10)
    replace HT := Lib.hid (HT.out.on (Nat.le_refl _) hb10)
    replace HU := Lib.hid (HU.out.on (Nat.le_refl _) hb10)
    replace HP := Lib.hid (HP.out.on (Nat.le_refl _) hb10)
    replace HK := Lib.hid (HK.out.trans (hb10.mono HK.out.size))
    clear hb10
    go_wp2_with fail
    refine (HA.out.sc _ _ _ _ _ HP.out HQ.out).mono ?_
    rintro e w11 ⟨rfl, hb11⟩
    replace HD := Lib.hid (HD.out.on (Nat.le_refl _) hb11)
    replace HC := Lib.hid (HC.out.on (Nat.le_refl _) hb11)
    replace HT := Lib.hid (HT.out.on (Nat.le_refl _) hb11)
    replace HU := Lib.hid (HU.out.on (Nat.le_refl _) hb11)
    replace HK := Lib.hid (HK.out.trans (hb11.mono HK.out.size))
    clear hb11
    go_wp2_with fail
    refine (HA.out.si _ _ _ _ _ HT.out HU.out).mono ?_
    rintro e w12 ⟨rfl, hb12⟩
    replace HD := Lib.hid (HD.out.on (Nat.le_refl _) hb12)
    replace HC := Lib.hid (HC.out.on (Nat.le_refl _) hb12)
    replace HK := Lib.hid (HK.out.trans (hb12.mono HK.out.size))
    clear hb12
    have hok : (ok == ok) = true := by simp
    go_wp2_with (first
      | ((with_reducible show wpList _ _ _ (⟨some 90, _, _, _, _, _⟩ :: _) _ _); refine wpList_convert_sl rfl _ _ _ _ rfl Try.underlying24 Try.underlying5 Try.underlying9 _ _ _ C rfl HD.out rfl ?_)
      | ((with_reducible show wpList _ _ _ (⟨some 92, _, _, _, _, _⟩ :: _) _ _); refine wpList_convert_sl rfl _ _ _ _ rfl Try.underlying24 Try.underlying5 Try.underlying9 _ _ _ C rfl HC.out rfl ?_)
      | (go_at_call 15; refine (awake_any _).mono ?_; rintro e w13 ⟨rfl, hb13⟩))
    go_ret
    exact ⟨rfl, HK.out.trans (hb13.mono HK.out.size)⟩
  · go_enter Try.func6, Try.ntmps6
    go_wp2_with fail
    refine CB.out.mono ?_
    rintro e w0 ⟨Ab, cb, rfl, hmb, hb0⟩
    go_wp2_with (first
      | (refine wpList_make_bytes rfl _ _ rfl 128 (by decide) rfl rfl ?_; intro w2 hmk hmb2 hmlt)
      | (refine wpList_copy_bytes rfl _ _ rfl (M := List.replicate 128 0) (l := l) (by simp) rfl rfl hmk ((HS.out.on (Nat.le_refl _) hb0).on (Nat.le_refl _) hmb2) ?_; intro w1 v1 hcp hon; rw [← HCE.out] at hcp))
    have HK := Lib.hid (hon.below (hb0.trans (hmb2.mono hb0.size)) hb0.size)
    have HC := Lib.hid (Sl.own hcp)
    clear hcp hon hmk hmb2 hmlt hmb hb0 CB HS

    refine (HA.out.cb _ _ _ HC.out (by omega)).mono ?_
    rintro e w2 ⟨A2, c2, rfl, hs2, hc2, hb2⟩
    have HD := Lib.hid hs2
    replace HC := Lib.hid (HC.out.on (Nat.le_refl _) hb2)
    replace HK := Lib.hid (HK.out.trans (hb2.mono HK.out.size))
    clear hs2 hb2
    go_wp2_with fail
    refine (HA.out.cm _ _ _ HC.out).mono ?_
    rintro e w3 ⟨gm, rfl, hom, hb3⟩
    have HM := Lib.hid hom
    replace HD := Lib.hid (HD.out.on (Nat.le_refl _) hb3)
    replace HC := Lib.hid (HC.out.on (Nat.le_refl _) hb3)
    replace HK := Lib.hid (HK.out.trans (hb3.mono HK.out.size))
    clear hom hb3
    clear HM
    go_wp2_with fail
    refine (HA.out.cf _ _ _ HC.out).mono ?_
    rintro e w4 ⟨A4, c4, rfl, hb4⟩
    replace HD := Lib.hid (HD.out.on (Nat.le_refl _) hb4)
    replace HC := Lib.hid (HC.out.on (Nat.le_refl _) hb4)
    replace HK := Lib.hid (HK.out.trans (hb4.mono HK.out.size))
    clear hb4
    go_wp2_with fail
    refine (HA.out.ct _ _ _ HD.out hc2).mono ?_
    rintro e w5 ⟨A5, c5, rfl, hs5, hb5⟩
    have HT := Lib.hid hs5
    clear hs5
    replace HD := Lib.hid (HD.out.on (Nat.le_refl _) hb5)
    replace HC := Lib.hid (HC.out.on (Nat.le_refl _) hb5)
    replace HK := Lib.hid (HK.out.trans (hb5.mono HK.out.size))
    clear hb5
    go_wp2_with fail
    refine (HA.out.cu _ _ _ HC.out).mono ?_
    rintro e w6 ⟨A6, c6, rfl, hs6, hb6⟩
    have HU := Lib.hid hs6
    clear hs6
    replace HD := Lib.hid (HD.out.on (Nat.le_refl _) hb6)
    replace HC := Lib.hid (HC.out.on (Nat.le_refl _) hb6)
    replace HT := Lib.hid (HT.out.on (Nat.le_refl _) hb6)
    replace HK := Lib.hid (HK.out.trans (hb6.mono HK.out.size))
    clear hb6
    go_wp2_with fail
    refine (HA.out.ud _ _ _ HD.out).mono ?_
    rintro e w7 ⟨rfl, rfl⟩
    have hus := HA.out.un (by omega)
    subst hus
    go_wp2_with fail
    refine (HA.out.fr _ _ _ HD.out hc2).mono ?_
    rintro e w8 ⟨rfl, hb8⟩
    replace HD := Lib.hid (HD.out.on (Nat.le_refl _) hb8)
    replace HC := Lib.hid (HC.out.on (Nat.le_refl _) hb8)
    replace HT := Lib.hid (HT.out.on (Nat.le_refl _) hb8)
    replace HU := Lib.hid (HU.out.on (Nat.le_refl _) hb8)
    replace HK := Lib.hid (HK.out.trans (hb8.mono HK.out.size))
    clear hb8
    go_wp2_with fail
    refine (HA.out.sp _ _ _ HD.out hc2).mono ?_
    rintro e w9 ⟨A9, c9, rfl, hs9, hc9, hb9⟩
    have HP := Lib.hid hs9
    clear hs9
    replace HD := Lib.hid (HD.out.on (Nat.le_refl _) hb9)
    replace HC := Lib.hid (HC.out.on (Nat.le_refl _) hb9)
    replace HT := Lib.hid (HT.out.on (Nat.le_refl _) hb9)
    replace HU := Lib.hid (HU.out.on (Nat.le_refl _) hb9)
    replace HK := Lib.hid (HK.out.trans (hb9.mono HK.out.size))
    clear hb9
    go_wp2_with fail
    refine (HA.out.rs _ _ _ HC.out).mono ?_
    rintro e w10 ⟨A10, c10, rfl, hs10, hc10, hb10⟩
    have HQ := Lib.hid hs10
    clear hs10
    replace HD := Lib.hid (HD.out.on (Nat.le_refl _) hb10)
    replace HC := Lib.hid (HC.out.on (Nat.le_refl _) hb10)
    replace HT := Lib.hid (HT.out.on (Nat.le_refl _) hb10)
    replace HU := Lib.hid (HU.out.on (Nat.le_refl _) hb10)
    replace HP := Lib.hid (HP.out.on (Nat.le_refl _) hb10)
    replace HK := Lib.hid (HK.out.trans (hb10.mono HK.out.size))
    clear hb10
    go_wp2_with fail
    refine (HA.out.sc _ _ _ _ _ HP.out HQ.out).mono ?_
    rintro e w11 ⟨rfl, hb11⟩
    replace HD := Lib.hid (HD.out.on (Nat.le_refl _) hb11)
    replace HC := Lib.hid (HC.out.on (Nat.le_refl _) hb11)
    replace HT := Lib.hid (HT.out.on (Nat.le_refl _) hb11)
    replace HU := Lib.hid (HU.out.on (Nat.le_refl _) hb11)
    replace HK := Lib.hid (HK.out.trans (hb11.mono HK.out.size))
    clear hb11
    go_wp2_with fail
    refine (HA.out.si _ _ _ _ _ HT.out HU.out).mono ?_
    rintro e w12 ⟨rfl, hb12⟩
    replace HD := Lib.hid (HD.out.on (Nat.le_refl _) hb12)
    replace HC := Lib.hid (HC.out.on (Nat.le_refl _) hb12)
    replace HK := Lib.hid (HK.out.trans (hb12.mono HK.out.size))
    clear hb12
    have hok : (ok == ok) = true := by simp
    go_wp2_with (first
      | ((with_reducible show wpList _ _ _ (⟨some 90, _, _, _, _, _⟩ :: _) _ _); refine wpList_convert_sl rfl _ _ _ _ rfl Try.underlying24 Try.underlying5 Try.underlying9 _ _ _ C rfl HD.out rfl ?_)
      | ((with_reducible show wpList _ _ _ (⟨some 92, _, _, _, _, _⟩ :: _) _ _); refine wpList_convert_sl rfl _ _ _ _ rfl Try.underlying24 Try.underlying5 Try.underlying9 _ _ _ C rfl HC.out rfl ?_)
      | (go_at_call 15; refine (awake_any _).mono ?_; rintro e w13 ⟨rfl, hb13⟩))
    go_ret
    exact ⟨rfl, HK.out.trans (hb13.mono HK.out.size)⟩

theorem all_walk (A0 : Option Addr) (l : List UInt8) (c0 : Nat) (full : Bool) (blocks n : Int) (w : World) (hs : Sl w w.heap.size 1 A0 l.length (l.map bv)) (hc : l.length ≤ c0) (hk : l.length ≤ 140737488355328)
    (h1 : -9223372036854775808 ≤ blocks) (h2 : blocks ≤ 9223372036854775807) (h3 : -9223372036854775808 ≤ n) (h4 : n ≤ 9223372036854775807) :
    Calls Try.prog 6 #[.slice A0 l.length c0, .bool full, .int .i64 blocks, .int .i64 n] w fun e w' => e = .returned (.bool true) ∧ Below w.heap.size w w' := by
  cases full
  · exact all_no A0 l c0 blocks n w hs hc hk
  · exact all_yes A0 l c0 blocks n w hs hc hk
end Go.Proofs.Ytipdaecihfkonaa.Bt

