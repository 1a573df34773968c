/-
  'SpanCutsInto' walked: cut in two places, one behind the other, it is as cut once, and again.
-/
import Derived.Test.YthdbllcpfajjmaaSpanA
namespace Go.Proofs.Ythdbllcpfajjmaa.Sp
open Fl Go.RowKit Ga Wd
set_option linter.unusedVariables false
set_option maxHeartbeats 3200000 in
theorem cutsInto_walk (A : Option Addr) (l : List Int) (c : Nat) (i j : Int) (w : World) (hs : Sl w w.heap.size 1 A l.length (l.map (Value.int .i64))) (hc : l.length ≤ c) (hk : l.length ≤ 17592186044416) (hb : ∀ x ∈ l, -9223372036854775808 ≤ x ∧ x ≤ 9223372036854775807)
    (h1 : -9223372036854775808 ≤ i) (h2 : i ≤ 9223372036854775807) (h3 : -9223372036854775808 ≤ j) (h4 : j ≤ 9223372036854775807) :
    Calls Try.prog 7 #[.slice A l.length c, .int .i64 i, .int .i64 j] w fun e w' => e = .returned (.bool true) ∧ Below w.heap.size w w' := by
  obtain ⟨i0, hi, hz0, hz1, hz2⟩ := info_parts infoC
  have LST := Lib.hid (list_any A l c w hs hk hb)
  obtain ⟨m, hm⟩ : ∃ m, m = listM l := ⟨_, rfl⟩
  have hmst := list_st l
  have hml := list_len l
  have hsb := nf_sum l
  rw [← hm] at LST hmst hml hsb
  obtain ⟨n, hn⟩ : ∃ n, n = nf m := ⟨_, rfl⟩
  obtain ⟨n1, n2, n3⟩ := nf_spec hmst
  have nl := nf_len m
  rw [← hn] at n1 n2 n3 nl hsb
  have hnl : n.length ≤ 20 := by omega
  have hsm := sumM_of n2
  have hs0 := sum_nonneg n1
  obtain ⟨S, hS⟩ : ∃ S, S = sumP n := ⟨_, rfl⟩
  have NRM := Lib.hid (fun A c w hs => norm_any A m c w hmst hs (by omega))
  rw [← hn] at NRM
  have SUM := Lib.hid (fun A c w hs => sum_any A n c w n1.sz hs (by omega))
  rw [hsm, ← hS] at SUM
  rw [← hS] at hs0 hsb
  have CS := Lib.hid (fun A c w hs => cs_any A n c w hs (by omega))
  have PL1 := Lib.hid (fun w => Pl.place_any i (S + 1) w (by omega) (by omega) h1 h2)
  obtain ⟨a0, a1⟩ := Pl.place_bd i (S + 1) (by omega)
  generalize Pl.placeZ i (S + 1) = a at *
  have PL2 := Lib.hid (fun w => Pl.place_any j (S - a + 1) w (by omega) (by omega) h3 h4)
  obtain ⟨b0, b1⟩ := Pl.place_bd j (S - a + 1) (by omega)
  generalize Pl.placeZ j (S - a + 1) = b at *
  obtain ⟨p1, p2, p3, p4, p5, p6, p7, p8⟩ := cut_spec (n := a) n1 n2 a0 (by omega)
  have C1 := Lib.hid (fun A c w hs => cut_yes A n c a w n1.sz hs (by omega) n2 a0 (by rw [hsm]; omega))
  obtain ⟨q1, q2, q3, q4, q5, q6, q7, q8⟩ := cut_spec (n := a + b) n1 n2 (by omega) (by omega)
  have C3 := Lib.hid (fun A c w hs => cut_yes A n c (a + b) w n1.sz hs (by omega) n2 (by omega) (by rw [hsm]; omega))
  obtain ⟨k1, k2⟩ := cut_cut (a := a) (b := b) n1 n2 a0 b0 (by omega)
  obtain ⟨l1, l2⟩ := cut_len n a
  obtain ⟨l3, l4⟩ := cut_len n (a + b)
  obtain ⟨x, hx⟩ : ∃ x, x = (cutM a n).1 := ⟨_, rfl⟩
  obtain ⟨rest, hr⟩ : ∃ rest, rest = (cutM a n).2 := ⟨_, rfl⟩
  rw [← hx] at p1 p3 p5 p7 p8 C1 k2 l1
  rw [← hr] at p2 p4 p6 p7 p8 C1 k1 k2 l2
  have hrs := sumM_of p4
  obtain ⟨r1, r2, r3, r4, r5, r6, r7, r8⟩ := cut_spec (n := b) p2 p4 b0 (by omega)
  have C2 := Lib.hid (fun A c w hs => cut_yes A rest c b w p2.sz hs (by omega) p4 b0 (by rw [hrs]; omega))
  have CS2 := Lib.hid (fun A c w hs => cs_any A rest c w hs (by omega))
  obtain ⟨l5, l6⟩ := cut_len rest b
  obtain ⟨y, hy⟩ : ∃ y, y = (cutM b rest).1 := ⟨_, rfl⟩
  obtain ⟨z, hz⟩ : ∃ z, z = (cutM b rest).2 := ⟨_, rfl⟩
  obtain ⟨u, hu⟩ : ∃ u, u = (cutM (a + b) n).1 := ⟨_, rfl⟩
  rw [← k1, ← hz] at q2 q4 q6 q7 q8 C3 l4
  rw [← hz] at r2 r4 r6 r7 r8 C2 l6
  rw [← hy] at r1 r3 r5 r7 r8 C2 k2 l5
  rw [← hu] at q1 q3 q5 q7 q8 C3 k2 l3
  have CSX := Lib.hid (fun A c w hs => cs_any A x c w hs (by omega))
  have hnf : nf (x ++ y) = u := nf_eq (p1.append r1) q1 q3 fun t => by rw [inB_append]; exact (k2 t).symm
  have NR2 := Lib.hid (fun A c w hs => norm_any A (x ++ y) c w (p1.append r1) hs (by rw [List.length_append]; omega))
  rw [hnf] at NR2
  have SM1 := Lib.hid (fun A1 A2 c1 c2 w h1 h2 => same_any A1 A2 u c1 c2 w q1 h1 h2 (by omega))
  have SM2 := Lib.hid (fun A1 A2 c1 c2 w h1 h2 => same_any A1 A2 z c1 c2 w r2 h1 h2 (by omega))
  clear hm hn hS hsm hmst n1 n2 n3 nl p1 p2 p3 p4 p5 p6 p7 p8 q1 q2 q3 q4 q5 q6 q7 q8 r1 r2 r3 r4 r5 r6 r7 r8 hx hr hy hz hu hrs k1 k2 hnf
  go_enter Try.func7, Try.ntmps7
  have HB0 := Lib.hid (Below.refl w.heap.size w)
  go_wp2_with fail
  refine (LST.out).mono ?_
  rintro e W1 ⟨A1, c1, rfl, hs1, hc1, hm1, hb1, _⟩
  have M_1 := Lib.hid hs1
  have HB1 := Lib.hid (HB0.out.trans (Below.mono hb1 HB0.out.size))
  clear hb1
  go_wp2_with fail
  refine (NRM.out _ _ _ M_1.out).mono ?_
  rintro e W2 ⟨A2, c2, rfl, hs2, hc2, hm2, hb2⟩
  have N_2 := Lib.hid hs2
  have HB2 := Lib.hid (HB1.out.trans (Below.mono hb2 HB1.out.size))
  clear hb2
  go_wp2_with fail
  refine (SUM.out _ _ _ N_2.out).mono ?_
  rintro e w' ⟨rfl, rfl⟩
  go_wp2_with fail
  refine (PL1.out _).mono ?_
  rintro e w' ⟨rfl, rfl⟩
  go_wp2_with fail
  refine (PL2.out _).mono ?_
  rintro e w' ⟨rfl, rfl⟩
  go_wp2_with fail
  refine (CS.out _ _ _ N_2.out).mono ?_
  rintro e W3 ⟨A3, c3, rfl, hs3, hc3, hm3, hb3, _⟩
  have C_3 := Lib.hid hs3
  have N_3 := Lib.hid (N_2.out.on (Nat.le_refl _) hb3)
  have HB3 := Lib.hid (HB2.out.trans (Below.mono hb3 HB2.out.size))
  clear hb3
  go_wp2_with fail
  refine (C1.out _ _ _ C_3.out).mono ?_
  rintro e W4 ⟨A4, c4, A5, c5, rfl, hs4, hc4, hs5, hc5, hb4⟩
  have X_4 := Lib.hid hs4
  have R_4 := Lib.hid hs5
  have N_4 := Lib.hid (N_3.out.on (Nat.le_refl _) hb4)
  have HB4 := Lib.hid (HB3.out.trans (Below.mono hb4 HB3.out.size))
  clear hb4
  go_wp2_with fail
  refine (CS2.out _ _ _ R_4.out).mono ?_
  rintro e W5 ⟨A6, c6, rfl, hs6, hc6, hm6, hb5, _⟩
  have C_5 := Lib.hid hs6
  have N_5 := Lib.hid (N_4.out.on (Nat.le_refl _) hb5)
  have X_5 := Lib.hid (X_4.out.on (Nat.le_refl _) hb5)
  have HB5 := Lib.hid (HB4.out.trans (Below.mono hb5 HB4.out.size))
  clear hb5
  go_wp2_with fail
  refine (C2.out _ _ _ C_5.out).mono ?_
  rintro e W6 ⟨A7, c7, A8, c8, rfl, hs7, hc7, hs8, hc8, hb6⟩
  have Y_6 := Lib.hid hs7
  have Z_6 := Lib.hid hs8
  have N_6 := Lib.hid (N_5.out.on (Nat.le_refl _) hb6)
  have X_6 := Lib.hid (X_5.out.on (Nat.le_refl _) hb6)
  have HB6 := Lib.hid (HB5.out.trans (Below.mono hb6 HB5.out.size))
  clear hb6
  go_wp2_with fail
  refine (CS.out _ _ _ N_6.out).mono ?_
  rintro e W7 ⟨A9, c9, rfl, hs9, hc9, hm9, hb7, _⟩
  have C_7 := Lib.hid hs9
  have X_7 := Lib.hid (X_6.out.on (Nat.le_refl _) hb7)
  have Y_7 := Lib.hid (Y_6.out.on (Nat.le_refl _) hb7)
  have Z_7 := Lib.hid (Z_6.out.on (Nat.le_refl _) hb7)
  have HB7 := Lib.hid (HB6.out.trans (Below.mono hb7 HB6.out.size))
  clear hb7
  go_wp2_with fail
  refine (C3.out _ _ _ C_7.out).mono ?_
  rintro e W8 ⟨A10, c10, A11, c11, rfl, hs10, hc10, hs11, hc11, hb8⟩
  have U_8 := Lib.hid hs10
  have V_8 := Lib.hid hs11
  have X_8 := Lib.hid (X_7.out.on (Nat.le_refl _) hb8)
  have Y_8 := Lib.hid (Y_7.out.on (Nat.le_refl _) hb8)
  have Z_8 := Lib.hid (Z_7.out.on (Nat.le_refl _) hb8)
  have HB8 := Lib.hid (HB7.out.trans (Below.mono hb8 HB7.out.size))
  clear hb8
  go_wp2_with fail
  refine (CSX.out _ _ _ X_8.out).mono ?_
  rintro e W9 ⟨Ac, cc, rfl, hsc, hcc, hmc, hb9, hmine⟩
  have HSY := Lib.hid (Y_8.out.on (Nat.le_refl _) hb9)
  have hszp := hb9.size
  go_wp2_with (at_builtin; refine wpList_append_mine rfl (.tmp 81) (.tmp 82) _ _ rfl W8.heap.size 22 i0 (.complex .f64 0 0) 1 16 hz1 hz2 rfl (by decide) _ _ _ rfl hmine _ y.length (y.map cv) rfl (Gives.slice Try.underlying32 hi hz0 (by rw [hz1]; exact HSY.out) (cv_one y)) (by simp only [maxLen]; omega) (by omega) hszp ?_; intro Aap cap W10 hmap hgap hb10 hatap hownap)
  have hbt := hb9.trans hb10
  have hapl : (x ++ y).length = x.length + y.length := List.length_append
  obtain ⟨Ax, cx, hvx, hcx, hmx, hsx⟩ := hmap.form
  injection hvx with hvx1 hvx2 hvx3
  subst hvx1; subst hvx3
  rw [← List.map_append] at hsx
  have HAP := Lib.hid hsx
  rw [← hapl] at HAP
  rw [← hapl]
  clear hapl hmap hgap hatap hownap hvx2 hsx hmine hszp
  have Z_10 := Lib.hid (Z_8.out.on (Nat.le_refl _) hbt)
  have U_10 := Lib.hid (U_8.out.on (Nat.le_refl _) hbt)
  have V_10 := Lib.hid (V_8.out.on (Nat.le_refl _) hbt)
  have HB10 := Lib.hid (HB8.out.trans (Below.mono hbt HB8.out.size))
  clear hbt hb9 hb10 hsc hcc hmc
  go_wp2_with fail
  refine (NR2.out _ _ _ HAP.out).mono ?_
  rintro e W11 ⟨A13, c13, rfl, hs13, hc13, hm13, hb11⟩
  have G_11 := Lib.hid hs13
  have Z_11 := Lib.hid (Z_10.out.on (Nat.le_refl _) hb11)
  have U_11 := Lib.hid (U_10.out.on (Nat.le_refl _) hb11)
  have V_11 := Lib.hid (V_10.out.on (Nat.le_refl _) hb11)
  have HB11 := Lib.hid (HB10.out.trans (Below.mono hb11 HB10.out.size))
  clear hb11
  go_wp2_with fail
  refine (SM1.out _ _ _ _ _ G_11.out U_11.out).mono ?_
  rintro e W12 ⟨rfl, hb12⟩
  have Z_12 := Lib.hid (Z_11.out.on (Nat.le_refl _) hb12)
  have U_12 := Lib.hid (U_11.out.on (Nat.le_refl _) hb12)
  have V_12 := Lib.hid (V_11.out.on (Nat.le_refl _) hb12)
  have G_12 := Lib.hid (G_11.out.on (Nat.le_refl _) hb12)
  have HB12 := Lib.hid (HB11.out.trans (Below.mono hb12 HB11.out.size))
  clear hb12
  go_wp2_with fail
  refine (SM2.out _ _ _ _ _ Z_12.out V_12.out).mono ?_
  rintro e W13 ⟨rfl, hb13⟩
  have Z_13 := Lib.hid (Z_12.out.on (Nat.le_refl _) hb13)
  have U_13 := Lib.hid (U_12.out.on (Nat.le_refl _) hb13)
  have V_13 := Lib.hid (V_12.out.on (Nat.le_refl _) hb13)
  have G_13 := Lib.hid (G_12.out.on (Nat.le_refl _) hb13)
  have HB13 := Lib.hid (HB12.out.trans (Below.mono hb13 HB12.out.size))
  clear hb13
  go_wp2_with fail
  refine (awake_any _).mono ?_
  rintro e W14 ⟨rfl, hb14⟩
  have Z_14 := Lib.hid (Z_13.out.on (Nat.le_refl _) hb14)
  have U_14 := Lib.hid (U_13.out.on (Nat.le_refl _) hb14)
  have V_14 := Lib.hid (V_13.out.on (Nat.le_refl _) hb14)
  have G_14 := Lib.hid (G_13.out.on (Nat.le_refl _) hb14)
  have HB14 := Lib.hid (HB13.out.trans (Below.mono hb14 HB13.out.size))
  clear hb14
  go_wp2_with fail
  go_ret
  exact ⟨rfl, HB14.out⟩
end Go.Proofs.Ythdbllcpfajjmaa.Sp
