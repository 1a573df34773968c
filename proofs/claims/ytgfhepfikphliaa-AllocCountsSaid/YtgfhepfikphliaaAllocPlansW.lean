/-
  'AllocPlans' walked: any map, any blocks that come and go.
-/
import Derived.Test.YtgfhepfikphliaaPlan1
import Derived.Test.YtgfhepfikphliaaAlloc3
namespace Go.Proofs.Ytgfhepfikphliaa.Pn
open Fl Sp Go.RowKit Wd By Bt
set_option linter.unusedVariables false
attribute [local go_sem] str_toList str_append str_size
theorem planM_len {L : List UInt8} {blocks n : Int} {gone T : List Int} {M : List UInt8} (h : planM L blocks n gone = some (T, M)) : T.length ≤ 1024 := by
  unfold planM at h
  split at h
  · obtain ⟨M', _, h2⟩ := Option.map_eq_some_iff.1 h
    injection h2 with h2 _
    rw [← h2]
    have := frees_len L blocks (top blocks)
    have := top_le blocks
    rw [takeL_form, List.length_take]; omega
  · cases h

theorem bytesN {N : Nat} {L : List UInt8} (hN : N = L.length) (hk : N ≤ 140737488355328) (A : Option Addr) (c : Nat) (W : World) (hs : Sl W W.heap.size 1 A N (L.map bv)) (hc : N ≤ c) :
    Calls Try.prog 16 #[.slice A N c] W fun e w' => ∃ A' c', e = .returned (.slice A' N c') ∧ Sl w' w'.heap.size 1 A' N (L.map bv) ∧ N ≤ c' ∧ Below W.heap.size W w' := by
  subst hN
  refine (bytes_any A L c W hs hc hk).mono ?_
  rintro e w1 ⟨A1, c1, rfl, hm1, hb1⟩
  obtain ⟨_, _, hv, h1, h2, h3⟩ := hm1.form
  injection hv with e1 _ e2
  subst e1; subst e2
  exact ⟨_, _, rfl, h3, h1, hb1⟩
theorem planN {N : Nat} {L : List UInt8} (hN : N = L.length) (hk : N ≤ 140737488355328) (A : Option Addr) (c : Nat) (blocks n : Int) (Ag : Option Addr) (gone : List Int) (cg : Nat) (w : World) (hs : Sl w w.heap.size 1 A N (L.map bv)) (hlc : N ≤ c)
    (hg : Sl w w.heap.size 1 Ag gone.length (gone.map (Value.int .i64))) (hgk : gone.length ≤ 17592186044416) :
    Calls Try.prog 17 #[.slice A N c, .int .i64 blocks, .int .i64 n, .slice Ag gone.length cg] w (PlanR w (planM L blocks n gone)) := by
  subst hN
  exact plan_any A L c blocks n Ag gone cg w hs hlc hk hg hgk
theorem rplanN {N : Nat} {L : List UInt8} (hN : N = L.length) (hk : N ≤ 140737488355328) (A : Option Addr) (c : Nat) (blocks n : Int) (Ag : Option Addr) (gone : List Int) (cg : Nat) (w : World) (hs : Sl w w.heap.size 1 A N (L.map bv)) (hlc : N ≤ c)
    (hg : Sl w w.heap.size 1 Ag gone.length (gone.map (Value.int .i64))) (hgk : gone.length ≤ 17592186044416) :
    Calls Try.prog 18 #[.slice A N c, .int .i64 blocks, .int .i64 n, .slice Ag gone.length cg] w (PlanR w (planM L blocks n gone)) := by
  subst hN
  exact rplan_any A L c blocks n Ag gone cg w hs hlc hk hg hgk

set_option maxRecDepth 50000 in
set_option maxHeartbeats 3200000 in
theorem plans_walk (Ao : Option Addr) (old : List UInt8) (co : Nat) (full : Bool) (blocks n : Int) (Ag : Option Addr) (gone : List Int) (cg : Nat) (w : World)
    (ho : Sl w w.heap.size 1 Ao old.length (old.map bv)) (hco : old.length ≤ co) (hod : old.length ≤ 140737488355328)
    (h1 : -9223372036854775808 ≤ blocks) (h2 : blocks ≤ 9223372036854775807) (h3 : -9223372036854775808 ≤ n) (h4 : n ≤ 9223372036854775807)
    (hg : Sl w w.heap.size 1 Ag gone.length (gone.map (Value.int .i64))) (hcg : gone.length ≤ cg) (hgd : gone.length ≤ 17592186044416) (hgb : ∀ x ∈ gone, -9223372036854775808 ≤ x ∧ x ≤ 9223372036854775807) :
    Calls Try.prog 6 #[.slice Ao old.length co, .bool full, .int .i64 blocks, .int .i64 n, .slice Ag gone.length cg] w fun e w' => e = .returned (.bool true) ∧ Below w.heap.size w w' := by
  have HO0 := Lib.hid ho
  have HG0 := Lib.hid hg
  clear ho hg hgb h1 h2 h3 h4
  cases full
  · by_cases hlg : 100 < gone.length
    · have hlgI : (100 : Int) < (gone.length : Int) := by omega
      have hN : old.length = old.length := rfl
      have HBY := Lib.hid (bytesN hN hod)
      have HPL := Lib.hid (planN hN hod)
      have HRP := Lib.hid (rplanN hN hod)
      clear hN
      go_enter Try.func6, Try.ntmps6
      go_wp2_with fail
      refine (HBY.out Ao co w HO0.out hco).mono ?_
      rintro e w1 ⟨Ac, cc, rfl, hs1, hcc, hb1⟩
      have HS1 := Lib.hid hs1
      have HB1 := Lib.hid hb1
      clear hs1 hb1
      go_wp2_with fail
      refine (Al.awake_any _).mono ?_
      rintro e w7 ⟨rfl, hb7⟩
      have HB7 := Lib.hid hb7
      clear hb7
      go_wp2_with fail
      go_ret
      exact ⟨rfl, HB1.out.trans (Below.mono HB7.out HB1.out.size)⟩
    · have hlgI : (gone.length : Int) ≤ 100 := by omega
      have hN : old.length = old.length := rfl
      have HBY := Lib.hid (bytesN hN hod)
      have HPL := Lib.hid (planN hN hod)
      have HRP := Lib.hid (rplanN hN hod)
      clear hN
      go_enter Try.func6, Try.ntmps6
      go_wp2_with fail
      refine (HBY.out Ao co w HO0.out hco).mono ?_
      rintro e w1 ⟨Ac, cc, rfl, hs1, hcc, hb1⟩
      have HS1 := Lib.hid hs1
      have HB1 := Lib.hid hb1
      clear hs1 hb1
      go_wp2_with fail
      refine (HBY.out Ac cc w1 HS1.out hcc).mono ?_
      rintro e w2 ⟨A2, c2, rfl, hs2, hc2, hb2⟩
      have HS2 := Lib.hid hs2
      have HB2 := Lib.hid hb2
      have HG2 := Lib.hid (HG0.out.on (Nat.le_refl _) (HB1.out.trans (Below.mono hb2 HB1.out.size)))
      clear hs2 hb2
      go_wp2_with fail
      refine (Al.ints_any Ag gone cg w2 HG2.out hcg hgd).mono ?_
      rintro e w3 ⟨A3, c3, rfl, hs3, hb3⟩
      have HS3 := Lib.hid hs3
      have HS23 := Lib.hid (HS2.out.on (Nat.le_refl _) hb3)
      have HB3 := Lib.hid (HB2.out.trans (Below.mono hb3 HB2.out.size))
      clear hs3 hb3
      go_wp2_with fail
      refine (HPL.out A2 c2 blocks n A3 gone c3 w3 HS23.out hc2 HS3.out hgd).mono ?_
      rintro e w4 hp4
      have hb4 : Below w3.heap.size w3 w4 := by rcases hp4 with ⟨_, _, h⟩ | ⟨_, _, _, _, _, _, _, _, _, _, _, _, h⟩ <;> exact h
      have HB4 := Lib.hid (HB3.out.trans (Below.mono hb4 HB3.out.size))
      have HPB := Lib.hid (HRP.out Ac cc blocks n Ag gone cg w4 (HS1.out.on (Nat.le_refl _) HB4.out) hcc (HG0.out.on (Nat.le_refl _) (HB1.out.trans (Below.mono HB4.out HB1.out.size))) hgd)
      rcases hp4 with ⟨hn, rfl, _⟩ | ⟨T, M, A5, c5, A6, c6, hn, rfl, hs5, hc5, hs6, hm6, _⟩
      · have HN := Lib.hid hn
        clear hn hb4
        go_wp2_with fail
        refine HPB.out.mono ?_
        rintro e w5 hp5
        rcases hp5 with ⟨_, rfl, hb5⟩ | ⟨T, M, A5, c5, A6, c6, hn, _⟩
        · have HB5 := Lib.hid (HB4.out.trans (Below.mono hb5 HB4.out.size))
          have SI := Lib.hid (Al.same_any none none [] [] 0 0 w5 (Sl.nil _) (Sl.nil _) (by simp) (by simp))
          clear hb5
          go_wp2_with fail
          refine SI.out.mono ?_
          rintro e w6 ⟨rfl, hb6⟩
          have HB6 := Lib.hid (HB5.out.trans (Below.mono hb6 HB5.out.size))
          clear hb6
          rw [show (([] : List Int) == []) = true from rfl]
          go_wp2_with (first
            | ((with_reducible show wpList _ _ _ (⟨some 54, _, _, _, _, _⟩ :: _) _ _); refine wpList_convert_sl rfl _ _ _ _ rfl Try.underlying38 Try.underlying5 Try.underlying9 _ _ _ [] rfl (Sl.nil (w := w6) (B := 0) (size := 1) none) rfl ?_)
            | ((with_reducible show wpList _ _ _ (⟨some 56, _, _, _, _, _⟩ :: _) _ _); refine wpList_convert_sl rfl _ _ _ _ rfl Try.underlying38 Try.underlying5 Try.underlying9 _ _ _ [] rfl (Sl.nil (w := w6) (B := 0) (size := 1) none) rfl ?_))
          refine (Al.awake_any _).mono ?_
          rintro e w7 ⟨rfl, hb7⟩
          have HB7 := Lib.hid (HB6.out.trans (Below.mono hb7 HB6.out.size))
          clear hb7
          go_wp2_with fail
          go_ret
          exact ⟨rfl, HB1.out.trans (Below.mono HB7.out HB1.out.size)⟩
        · rw [HN.out] at hn
          cases hn
      · have HN := Lib.hid hn
        have htl := planM_len hn
        have HS5 := Lib.hid hs5
        have HS6 := Lib.hid hs6
        clear hn hb4 hs5 hs6
        go_wp2_with fail
        refine HPB.out.mono ?_
        rintro e w5 hp5
        rcases hp5 with ⟨hn2, _⟩ | ⟨T', M', A8, c8, A9, c9, hn2, rfl, hs8, hc8, hs9, hm9, hb5⟩
        · rw [HN.out] at hn2
          cases hn2
        · rw [HN.out] at hn2
          injection hn2 with hn2
          injection hn2 with e1 e2
          subst e1; subst e2
          have HB5 := Lib.hid (HB4.out.trans (Below.mono hb5 HB4.out.size))
          have HS6' := Lib.hid (HS6.out.on (Nat.le_refl _) hb5)
          have HS9 := Lib.hid hs9
          have SI := Lib.hid (Al.same_any A5 A8 T T c5 c8 w5 (HS5.out.on (Nat.le_refl _) hb5) hs8 (by omega) (by omega))
          rw [beq_self_eq_true T] at SI
          clear hb5 hs8 hs9
          go_wp2_with fail
          refine SI.out.mono ?_
          rintro e w6 ⟨rfl, hb6⟩
          have HB6 := Lib.hid (HB5.out.trans (Below.mono hb6 HB5.out.size))
          have HS66 := Lib.hid (HS6'.out.on (Nat.le_refl _) hb6)
          have HS96 := Lib.hid (HS9.out.on (Nat.le_refl _) hb6)
          clear hb6
          go_wp2_with (first
            | ((with_reducible show wpList _ _ _ (⟨some 54, _, _, _, _, _⟩ :: _) _ _); refine wpList_convert_sl rfl _ _ _ _ rfl Try.underlying38 Try.underlying5 Try.underlying9 _ _ _ M rfl HS66.out rfl ?_)
            | ((with_reducible show wpList _ _ _ (⟨some 56, _, _, _, _, _⟩ :: _) _ _); refine wpList_convert_sl rfl _ _ _ _ rfl Try.underlying38 Try.underlying5 Try.underlying9 _ _ _ M rfl HS96.out rfl ?_))
          refine (Al.awake_any _).mono ?_
          rintro e w7 ⟨rfl, hb7⟩
          have HB7 := Lib.hid (HB6.out.trans (Below.mono hb7 HB6.out.size))
          clear hb7
          go_wp2_with fail
          go_ret
          exact ⟨rfl, HB1.out.trans (Below.mono HB7.out HB1.out.size)⟩
  · by_cases hlg : 100 < gone.length
    · have hlgI : (100 : Int) < (gone.length : Int) := by omega
      have HBY0 := Lib.hid (bytesN (rfl : old.length = old.length) hod)
      obtain ⟨L, hL⟩ : ∃ L, L = over old (List.replicate 128 0) := ⟨_, rfl⟩
      have hN : 128 = L.length := by rw [hL, over_len]; simp
      have HLE := Lib.hid hL
      have HBY := Lib.hid (bytesN hN (by decide))
      have HPL := Lib.hid (planN hN (by decide))
      have HRP := Lib.hid (rplanN hN (by decide))
      clear hN hL
      go_enter Try.func6, Try.ntmps6
      go_wp2_with fail
      refine (HBY0.out Ao co w HO0.out hco).mono ?_
      rintro e w0 ⟨A0, c0, rfl, hs0, hc0, hb0⟩
      have HB0 := Lib.hid hb0
      have HO1 := Lib.hid (HO0.out.on (Nat.le_refl _) hb0)
      clear hs0 hb0
      go_wp2_with (first
        | (refine wpList_make_bytes rfl _ _ rfl 128 (by decide) rfl rfl ?_; intro w2 hmk hmb hmlt)
        | (refine wpList_copy_bytes rfl _ _ rfl (M := List.replicate 128 0) (l := old) (by simp) rfl rfl hmk (HO1.out.on (Nat.le_refl _) hmb) ?_; intro w1 v1 hcp hon; rw [← HLE.out] at hcp))
      have HB1 := Lib.hid (HB0.out.trans (Below.mono (hon.below hmb (Nat.le_refl _)) HB0.out.size))
      have HS1 := Lib.hid (Sl.own hcp)
      have hcc : 128 ≤ 128 := Nat.le_refl _
      clear hcp hon hmk hmb hmlt
      refine (Al.awake_any _).mono ?_
      rintro e w7 ⟨rfl, hb7⟩
      have HB7 := Lib.hid hb7
      clear hb7
      go_wp2_with fail
      go_ret
      exact ⟨rfl, HB1.out.trans (Below.mono HB7.out HB1.out.size)⟩
    · have hlgI : (gone.length : Int) ≤ 100 := by omega
      have HBY0 := Lib.hid (bytesN (rfl : old.length = old.length) hod)
      obtain ⟨L, hL⟩ : ∃ L, L = over old (List.replicate 128 0) := ⟨_, rfl⟩
      have hN : 128 = L.length := by rw [hL, over_len]; simp
      have HLE := Lib.hid hL
      have HBY := Lib.hid (bytesN hN (by decide))
      have HPL := Lib.hid (planN hN (by decide))
      have HRP := Lib.hid (rplanN hN (by decide))
      clear hN hL
      go_enter Try.func6, Try.ntmps6
      go_wp2_with fail
      refine (HBY0.out Ao co w HO0.out hco).mono ?_
      rintro e w0 ⟨A0, c0, rfl, hs0, hc0, hb0⟩
      have HB0 := Lib.hid hb0
      have HO1 := Lib.hid (HO0.out.on (Nat.le_refl _) hb0)
      clear hs0 hb0
      go_wp2_with (first
        | (refine wpList_make_bytes rfl _ _ rfl 128 (by decide) rfl rfl ?_; intro w2 hmk hmb hmlt)
        | (refine wpList_copy_bytes rfl _ _ rfl (M := List.replicate 128 0) (l := old) (by simp) rfl rfl hmk (HO1.out.on (Nat.le_refl _) hmb) ?_; intro w1 v1 hcp hon; rw [← HLE.out] at hcp))
      have HB1 := Lib.hid (HB0.out.trans (Below.mono (hon.below hmb (Nat.le_refl _)) HB0.out.size))
      have HS1 := Lib.hid (Sl.own hcp)
      have hcc : 128 ≤ 128 := Nat.le_refl _
      clear hcp hon hmk hmb hmlt
      refine (HBY.out (some ⟨w0.heap.size, 0, none⟩) 128 w1 HS1.out hcc).mono ?_
      rintro e w2 ⟨A2, c2, rfl, hs2, hc2, hb2⟩
      have HS2 := Lib.hid hs2
      have HB2 := Lib.hid hb2
      have HG2 := Lib.hid (HG0.out.on (Nat.le_refl _) (HB1.out.trans (Below.mono hb2 HB1.out.size)))
      clear hs2 hb2
      go_wp2_with fail
      refine (Al.ints_any Ag gone cg w2 HG2.out hcg hgd).mono ?_
      rintro e w3 ⟨A3, c3, rfl, hs3, hb3⟩
      have HS3 := Lib.hid hs3
      have HS23 := Lib.hid (HS2.out.on (Nat.le_refl _) hb3)
      have HB3 := Lib.hid (HB2.out.trans (Below.mono hb3 HB2.out.size))
      clear hs3 hb3
      go_wp2_with fail
      refine (HPL.out A2 c2 blocks n A3 gone c3 w3 HS23.out hc2 HS3.out hgd).mono ?_
      rintro e w4 hp4
      have hb4 : Below w3.heap.size w3 w4 := by rcases hp4 with ⟨_, _, h⟩ | ⟨_, _, _, _, _, _, _, _, _, _, _, _, h⟩ <;> exact h
      have HB4 := Lib.hid (HB3.out.trans (Below.mono hb4 HB3.out.size))
      have HPB := Lib.hid (HRP.out (some ⟨w0.heap.size, 0, none⟩) 128 blocks n Ag gone cg w4 (HS1.out.on (Nat.le_refl _) HB4.out) hcc (HG0.out.on (Nat.le_refl _) (HB1.out.trans (Below.mono HB4.out HB1.out.size))) hgd)
      rcases hp4 with ⟨hn, rfl, _⟩ | ⟨T, M, A5, c5, A6, c6, hn, rfl, hs5, hc5, hs6, hm6, _⟩
      · have HN := Lib.hid hn
        clear hn hb4
        go_wp2_with fail
        refine HPB.out.mono ?_
        rintro e w5 hp5
        rcases hp5 with ⟨_, rfl, hb5⟩ | ⟨T, M, A5, c5, A6, c6, hn, _⟩
        · have HB5 := Lib.hid (HB4.out.trans (Below.mono hb5 HB4.out.size))
          have SI := Lib.hid (Al.same_any none none [] [] 0 0 w5 (Sl.nil _) (Sl.nil _) (by simp) (by simp))
          clear hb5
          go_wp2_with fail
          refine SI.out.mono ?_
          rintro e w6 ⟨rfl, hb6⟩
          have HB6 := Lib.hid (HB5.out.trans (Below.mono hb6 HB5.out.size))
          clear hb6
          rw [show (([] : List Int) == []) = true from rfl]
          go_wp2_with (first
            | ((with_reducible show wpList _ _ _ (⟨some 54, _, _, _, _, _⟩ :: _) _ _); refine wpList_convert_sl rfl _ _ _ _ rfl Try.underlying38 Try.underlying5 Try.underlying9 _ _ _ [] rfl (Sl.nil (w := w6) (B := 0) (size := 1) none) rfl ?_)
            | ((with_reducible show wpList _ _ _ (⟨some 56, _, _, _, _, _⟩ :: _) _ _); refine wpList_convert_sl rfl _ _ _ _ rfl Try.underlying38 Try.underlying5 Try.underlying9 _ _ _ [] rfl (Sl.nil (w := w6) (B := 0) (size := 1) none) rfl ?_))
          refine (Al.awake_any _).mono ?_
          rintro e w7 ⟨rfl, hb7⟩
          have HB7 := Lib.hid (HB6.out.trans (Below.mono hb7 HB6.out.size))
          clear hb7
          go_wp2_with fail
          go_ret
          exact ⟨rfl, HB1.out.trans (Below.mono HB7.out HB1.out.size)⟩
        · rw [HN.out] at hn
          cases hn
      · have HN := Lib.hid hn
        have htl := planM_len hn
        have HS5 := Lib.hid hs5
        have HS6 := Lib.hid hs6
        clear hn hb4 hs5 hs6
        go_wp2_with fail
        refine HPB.out.mono ?_
        rintro e w5 hp5
        rcases hp5 with ⟨hn2, _⟩ | ⟨T', M', A8, c8, A9, c9, hn2, rfl, hs8, hc8, hs9, hm9, hb5⟩
        · rw [HN.out] at hn2
          cases hn2
        · rw [HN.out] at hn2
          injection hn2 with hn2
          injection hn2 with e1 e2
          subst e1; subst e2
          have HB5 := Lib.hid (HB4.out.trans (Below.mono hb5 HB4.out.size))
          have HS6' := Lib.hid (HS6.out.on (Nat.le_refl _) hb5)
          have HS9 := Lib.hid hs9
          have SI := Lib.hid (Al.same_any A5 A8 T T c5 c8 w5 (HS5.out.on (Nat.le_refl _) hb5) hs8 (by omega) (by omega))
          rw [beq_self_eq_true T] at SI
          clear hb5 hs8 hs9
          go_wp2_with fail
          refine SI.out.mono ?_
          rintro e w6 ⟨rfl, hb6⟩
          have HB6 := Lib.hid (HB5.out.trans (Below.mono hb6 HB5.out.size))
          have HS66 := Lib.hid (HS6'.out.on (Nat.le_refl _) hb6)
          have HS96 := Lib.hid (HS9.out.on (Nat.le_refl _) hb6)
          clear hb6
          go_wp2_with (first
            | ((with_reducible show wpList _ _ _ (⟨some 54, _, _, _, _, _⟩ :: _) _ _); refine wpList_convert_sl rfl _ _ _ _ rfl Try.underlying38 Try.underlying5 Try.underlying9 _ _ _ M rfl HS66.out rfl ?_)
            | ((with_reducible show wpList _ _ _ (⟨some 56, _, _, _, _, _⟩ :: _) _ _); refine wpList_convert_sl rfl _ _ _ _ rfl Try.underlying38 Try.underlying5 Try.underlying9 _ _ _ M rfl HS96.out rfl ?_))
          refine (Al.awake_any _).mono ?_
          rintro e w7 ⟨rfl, hb7⟩
          have HB7 := Lib.hid (HB6.out.trans (Below.mono hb7 HB6.out.size))
          clear hb7
          go_wp2_with fail
          go_ret
          exact ⟨rfl, HB1.out.trans (Below.mono HB7.out HB1.out.size)⟩
end Go.Proofs.Ytgfhepfikphliaa.Pn
