/-
  'ChunkWhole' walked: a file that is written block by block is the file that was written. (Of at most 1000 bytes.)
-/
import Derived.Test.YtndfkpajojbfkaaWhole2
import Derived.Test.YtndfkpajojbfkaaPlace
namespace Go.Proofs.Ytndfkpajojbfkaa.Ck
open Go.RowKit Wd Is Sp Fl Ga By We
set_option linter.unusedVariables false

set_option maxRecDepth 100000 in
set_option maxHeartbeats 6400000 in
theorem whole_short (Ac : Option Addr) (content : List UInt8) (cc : Nat) (Aa : Option Addr) (ats : List Int) (ca : Nat) (Ad : Option Addr) (rows : List (List UInt8)) (cd : Nat) (w : World)
    (hcont : Sl w w.heap.size 1 Ac content.length (content.map bv)) (hccap : content.length ≤ cc) (hcb : content.length ≤ 140737488355328)
    (hats : Sl w w.heap.size 1 Aa ats.length (ats.map (Value.int .i64))) (hab : ats.length ≤ 17592186044416) (hatb : ∀ x ∈ ats, -9223372036854775808 ≤ x ∧ x ≤ 9223372036854775807)
    (hrows : Rows2 w Ad rows) (hrb : rows.length ≤ 17592186044416) (hlen : content.length ≤ 1000) :
    Calls Try.prog 6 #[.slice Ac content.length cc, .slice Aa ats.length ca, .slice Ad rows.length cd] w fun e w' => e = .returned (.bool true) ∧ Below w.heap.size w w' := by
  obtain ⟨i0, hi0, hz0, hz1, hz2⟩ := info_parts infoB
  have CB := Lib.hid (bytes_own Ac content cc w hcont hccap hcb)
  have HAT := Lib.hid hats
  have HATB := Lib.hid hatb
  have HR := Lib.hid hrows
  obtain ⟨C0, hC0⟩ : ∃ C0, C0 = content.take 1000 := ⟨_, rfl⟩
  obtain ⟨N, hN⟩ : ∃ N, N = C0.length := ⟨_, rfl⟩
  have hCC : C0 = content := by rw [hC0, List.take_of_length_le hlen]
  rw [hCC] at hN
  rw [← hN] at CB hlen hccap hcb ⊢
  have hNI : (N : Int) ≤ 1000 := by omega
  have hN1 : N ≤ 1000 := by omega
  obtain ⟨nb, hnb⟩ : ∃ nb : Nat, (nb : Int) = blocksN (N : Int) := Int.eq_ofNat_of_zero_le (blocksN_bd (N : Int) (by omega)).1 |>.imp fun _ h => h.symm
  have hnb8 : nb ≤ 8 ∧ N ≤ 128 * nb ∧ (nb = 0 ∨ 128 * (nb - 1) ≤ N) := by
    unfold blocksN at hnb
    split at hnb <;> omega
  obtain ⟨hnb8, hnbN, hnbM⟩ := hnb8
  have BL := Lib.hid (fun w => blocks_any (N : Int) w (by omega) (by omega))
  rw [← hnb] at BL
  have HNC : Hid (N = C0.length) := Lib.hid (by rw [hCC]; exact hN)
  have HGD0 := Lib.hid (st_good C0 nb (by rw [← HNC.out]; omega))
  rw [← hCC] at CB
  clear hcont hats hatb hrows hN hC0 hnb hCC
  go_enter Try.func6, Try.ntmps6
  go_wp2_with fail
  refine CB.out.mono ?_
  rintro e w1 ⟨A1, c1, rfl, ho1, hb1⟩
  have ho2 := ho1
  have hNE : (Value.slice A1 N c1).ownBlock ≠ some w1.heap.size := fun e => Nat.lt_irrefl _ (own_in ho2 _ e).2
  clear ho1
  go_wp2_with ((with_reducible show wpList _ _ _ (⟨some 8, _, _, _, _, _⟩ :: _) _ _); refine wpList_alloc_bls rfl rfl (Value.slice A1 N c1).ownBlock hNE ?_; intro w2 hbk2 hb2)
  obtain ⟨b8, hb8⟩ : ∃ b8, b8 = w1.heap.size := ⟨_, rfl⟩
  have h08 : w.heap.size ≤ b8 := by rw [hb8]; exact hb1.size
  have HWS : Hid (WS w w2 b8 A1 N c1 C0 (stB C0 0)) := Lib.hid ⟨own_kept ho2 hb2, by rw [st_zero, hb8]; exact hbk2, hb1.trans (hb2.mono hb1.size)⟩
  rw [← hb8]
  clear ho2 hNE hbk2 hb2 hb8 hb1
  go_loopw [9] (fun kv wr => ∃ k : Nat, k ≤ nb ∧ kv = .int .i64 (k : Int) ∧ WS w wr b8 A1 N c1 C0 (stB C0 k)) (fun kv _ => nb - (intOf kv).toNat)
  case atStart => exact ⟨0, by omega, rfl, HWS.out⟩
  case round =>
    obtain ⟨k, hk, rfl, hws⟩ := hrel
    replace HWS := Lib.hid hws
    have hNc1 := hws.room.2
    clear hws
    by_cases hlt : k < nb
    · have hltI : (k : Int) < (nb : Int) := by omega
      have hk32 : (k : Int) < 32 := by omega
      have hk0 : (0 : Int) ≤ (k : Int) := by omega
      have hkN : 128 * k ≤ N := by omega
      go_wp2_with (first
        | (go_at_call 13; refine (BL.out _).mono ?_; rintro e w3 ⟨rfl, rfl⟩)
        | (refine wpList_make_bytes rfl _ _ rfl 128 (by decide) rfl rfl ?_; intro w4 hmk hmb hmlt)
        | ((with_reducible show wpList _ _ _ (⟨none, Op.store 36 (.tmp 42) _, _, _, _, _⟩ :: _) _ _); refine wpList_store_raw rfl _ _ rfl (HWS.out.on hmb).blk k (by omega) rfl rfl ?_; intro w5 hw5 hck5))
      obtain ⟨g, hg⟩ : ∃ g, g = wr.heap.size := ⟨_, rfl⟩
      rw [← hg] at hmk hck5 hw5 hmb ⊢
      obtain ⟨hsc, hzz, hgl⟩ := HWS.out.pre hg hmb hw5 hmk
      have hb8g : b8 < g := by rw [hg]; exact HWS.out.blk.lt
      have HSC := Lib.hid hsc
      have HZ := Lib.hid hzz
      have HGL := Lib.hid hgl
      have HG := Lib.hid hg
      have HMB := Lib.hid hmb
      have HW5 := Lib.hid hw5
      have HCK := Lib.hid hck5
      clear hmk hmlt hsc hzz hg hgl hmb hw5 hck5
      refine wp_region_e g HGL.out (by kernel_rfl) (fun d u w' => match d with
        | 43 => u = (.int .i64 (k : Int) : Value)
        | 44 => u = (.pointer (some ⟨b8, k, none⟩) : Value)
        | 45 => u = (.slice (some ⟨g, 0, none⟩) 128 128 : Value)
        | 46 => u = (.slice A1 N c1 : Value)
        | 47 => u = (.int .i64 (k : Int) : Value)
        | 48 => u = (.int .i64 ((128 * k : Nat) : Int) : Value)
        | 49 => ∃ A', u = .slice A' (C0.drop (128 * k)).length (c1 - 128 * k) ∧ Sl w' w'.heap.size 1 A' (C0.drop (128 * k)).length ((C0.drop (128 * k)).map bv)
        | 50 => w'.ownsRow g 5 1 (.slice (some ⟨g, 0, none⟩) 128 128) 128 ((over (C0.drop (128 * k)) (List.replicate 128 0)).map bv)
        | _ => True) 198 rfl (by decide +kernel) [50] 7 (fun w => w.ownsRow g 5 1 (.slice (some ⟨g, 0, none⟩) 128 128) 128 ((List.replicate 128 (0 : UInt8)).map bv)) HZ.out (fun x y hk ho => own_kept ho hk) ?_ ?_
      · refine AllSteps.cons (StepE.move _ rfl rfl fun a w' hl => hl.old 9 rfl) ?_
        refine AllSteps.cons (StepE.plain rfl fun a w' K hl hK => ?_) ?_
        · have h8 : a.eval (.tmp 8) = (.pointer (some ⟨b8, 0, none⟩) : Value) := hl.old 8 rfl
          obtain ⟨_, _, _, h43⟩ := hl.dep 0 43 rfl rfl
          replace h43 : a.eval (.tmp 43) = _ := h43
          refine wp_val (.pointer (some ⟨b8, k, none⟩)) ?_ (hK _ _ (Kept.refl _) rfl)
          clear hl hK
          generalize a.eval = ρ at *
          simp [execOp, go_sem, h8, h43, hk32, hk0]
          all_goals (try intro h)
          all_goals (try omega)
        refine AllSteps.cons (StepE.plain rfl fun a w' K hl hK => ?_) ?_
        · obtain ⟨_, _, _, h44⟩ := hl.dep 1 44 rfl rfl
          replace h44 : a.eval (.tmp 44) = _ := h44
          exact wp_load_sl rfl ((Below.cell hl.kept (p := ⟨b8, k, none⟩) hb8g).trans HCK.out) h44 (hK _ _ (Kept.refl _) rfl)
        refine AllSteps.cons (StepE.move _ rfl rfl fun a w' hl => hl.old 7 rfl) ?_
        refine AllSteps.cons (StepE.move _ rfl rfl fun a w' hl => hl.old 9 rfl) ?_
        refine AllSteps.cons (StepE.plain rfl fun a w' K hl hK => ?_) ?_
        · obtain ⟨_, _, _, h47⟩ := hl.dep 4 47 rfl rfl
          replace h47 : a.eval (.tmp 47) = _ := h47
          have hconst : ∀ x, a.eval (.const x) = x := fun _ => rfl
          refine wp_val (.int .i64 ((128 * k : Nat) : Int)) ?_ (hK _ _ (Kept.refl _) rfl)
          clear hl hK
          generalize a.eval = ρ at *
          simp [execOp, go_sem, h47, hconst]
          try rw [IntKind.wrap_i64]
          all_goals (try omega)
        refine AllSteps.cons (StepE.plain rfl fun a w' K hl hK => ?_) ?_
        · obtain ⟨_, _, _, h46⟩ := hl.dep 3 46 rfl rfl
          replace h46 : a.eval (.tmp 46) = _ := h46
          obtain ⟨_, _, _, h48⟩ := hl.dep 5 48 rfl rfl
          replace h48 : a.eval (.tmp 48) = _ := h48
          exact wp_slice_tail rfl h46 ((HSC.out).below hl.kept) HNC.out (128 * k) h48 (by omega) hNc1 (fun A' hs => hK _ _ (Kept.refl _) ⟨A', rfl, hs.more (Nat.le_trans hl.base hl.kept.size)⟩)
        refine AllSteps.cons (StepE.raw rfl fun a w' K hl hK => ?_) ?_
        · obtain ⟨_, _, _, h45⟩ := hl.dep 2 45 rfl rfl
          replace h45 : a.eval (.tmp 45) = _ := h45
          obtain ⟨_, w1, hk1, A'', h49, hs49⟩ := hl.dep 6 49 rfl rfl
          refine wp_copy_over rfl (by simp) h45 h49 (hl.still (.inl rfl)) (hs49.on (Nat.le_refl _) hk1) (fun v wz hown hon => hK v wz (hon.low g (Nat.le_refl _)) (fun d u' hd hlv hlt hsn => ?_) (.inl rfl) hown)
          obtain ⟨w8, hk8, h8⟩ := hsn
          refine ⟨wz, Kept.refl _, ?_⟩
          by_cases h15 : d = 49
          · subst h15; exact absurd hlv (by decide +kernel)
          by_cases h16 : d = 50
          · subst h16; exact absurd rfl hd
          clear hl hK hlv hlt hd
          dsimp only at h8 ⊢
          split at h8 <;> first | exact h8 | exact absurd rfl h15 | exact absurd rfl h16 | (split <;> first | trivial | (exfalso; simp_all))
        exact AllSteps.nil
      · intro f w9 hk9 hf
        obtain ⟨w10, hk10, hown10⟩ := hf 50 rfl rfl
        have ho9 := own_kept hown10 hk10
        simp only [fill, dsts, List.filterMap_cons, List.filterMap_nil, List.foldl_cons, List.foldl_nil, Act.put, List.setIfInBounds_toArray, List.set_cons_succ, List.set_cons_zero]
        have HWN := Lib.hid (HWS.out.lay HG.out h08 HMB.out HW5.out HCK.out hk9 ho9 (over_128 _) (by omega))
        clear hf hown10 ho9 hk9 hk10
        rw [← st_succ] at HWN
        go_wp2_with fail
        go_roundw
        case rel => exact ⟨k + 1, by omega, by go_num, HWN.out⟩
        case measure => simp [intOf]; omega
    · have hgek : (nb : Int) ≤ (k : Int) := by omega
      obtain rfl : nb = k := by omega
      go_wp2_with (go_at_call 13; refine (BL.out _).mono ?_; rintro e w3 ⟨rfl, rfl⟩)
      go_loopw [10, 7] (fun iv cv wr => ∃ (i : Nat) (C : List UInt8) (B : Bls) (A : Option Addr) (n c : Nat), i ≤ 8 ∧ iv = .int .i64 (i : Int) ∧ cv = .slice A n c ∧ n ≤ 1900 ∧ Good B C ∧ WS w wr b8 A n c C B) (fun iv _ _ => 8 - (intOf iv).toNat)
      case atStart => exact ⟨0, C0, stB C0 nb, A1, N, c1, by omega, rfl, rfl, by omega, HGD0.out, HWS.out⟩
      case round =>
        obtain ⟨i, C, B, A, n, c, hi, rfl, rfl, hn19, hgd, hws⟩ := hrel
        have HGD := Lib.hid hgd
        replace HWS := Lib.hid hws
        obtain ⟨hnC, hnc⟩ := hws.room
        clear hgd hws
        by_cases hl1 : i < ats.length
        · have hl1I : (i : Int) < (ats.length : Int) := by omega
          have hin0 : (0 : Int) ≤ (i : Int) := by omega
          by_cases hl2 : i < rows.length
          · have hl2I : (i : Int) < (rows.length : Int) := by omega
            by_cases hl3 : i < 8
            · have hl3I : (i : Int) < 8 := by omega
              by_cases hbig : (rows.getD i []).length ≤ 400
              · have hbg : ∀ L, rows[i]? = some L → L.length ≤ 400 := fun L h => by
                  rw [List.getD_eq_getElem?_getD, h] at hbig
                  exact hbig
                obtain ⟨z, hz⟩ : ∃ z, ats[i]? = some z := ⟨_, List.getElem?_eq_getElem hl1⟩
                obtain ⟨zb1, zb2⟩ := HATB.out z (List.mem_of_getElem? hz)
                have PZ := Lib.hid (fun w => Pl.place_any z 1500 w (by omega) (by omega) zb1 zb2)
                obtain ⟨q0, q1⟩ := Pl.place_bd z 1500 (by omega)
                generalize Pl.placeZ z 1500 = at0 at *
                obtain ⟨at', rfl⟩ := Int.eq_ofNat_of_zero_le q0
                obtain ⟨L, hL⟩ : ∃ L, rows[i]? = some L := ⟨_, List.getElem?_eq_getElem hl2⟩
                obtain ⟨cells, hcs, hce⟩ := HR.out
                obtain ⟨Ai, ci, hci, hsi, hli, _⟩ := hce i L hL
                obtain ⟨bd, od, rfl, hbd, hcd⟩ := hcs.at (by omega) (by decide)
                obtain ⟨ba, oa, rfl, hba, hca⟩ := HAT.out.at (by omega) (by decide)
                have hcz : wr.cell? ⟨ba, oa + i, none⟩ = some (.int .i64 z) := (Below.cell HWS.out.bel (p := ⟨ba, oa + i, none⟩) hba).trans (hca i _ (by rw [List.getElem?_map, hz]; rfl))
                obtain ⟨ln, hln⟩ : ∃ ln, ln = L.length := ⟨_, rfl⟩
                rw [← hln] at hci hsi hli
                have h4 : ln ≤ 400 := by rw [hln]; exact hbg L hL
                have HCD : Hid (wr.cell? ⟨bd, od + i, none⟩ = some (.slice Ai ln ci)) := Lib.hid ((Below.cell HWS.out.bel (p := ⟨bd, od + i, none⟩) hbd).trans (hcd i _ hci))

                have h400I : (ln : Int) ≤ 400 := by omega
                obtain ⟨D, hD⟩ : ∃ D, D = L := ⟨_, rfl⟩
                obtain ⟨dn, hdn⟩ : ∃ dn : Nat, dn = ln := ⟨_, rfl⟩
                have hdl : dn = D.length := by rw [hD, hdn, hln]
                have hsd : Sl w w.heap.size 1 Ai dn (D.map bv) := by rw [hD, hdn]; exact hsi
                have hdci : dn ≤ ci := by omega
                have hdn4 : dn ≤ 400 := by omega
                subst hdn

                clear hz zb1 zb2 hL hcs hce hci hsi hcd hca hln hD
                have HDN := Lib.hid hdl
                have HSD := Lib.hid hsd
                have BYD : Hid (∀ w', Below w.heap.size w w' → Calls Try.prog 18 #[.slice Ai dn ci] w' fun e w'' => ∃ A' c', e = .returned (.slice A' dn c') ∧ Sl w'' w''.heap.size 1 A' dn (D.map bv) ∧ Below w'.heap.size w' w'') := Lib.hid fun w' hk => by
                  have h2 := HSD.out.on (Nat.le_refl _) hk
                  rw [hdl] at h2 ⊢
                  refine (bytes_own Ai D ci w' h2 (by omega) (by omega)).mono ?_
                  rintro e w'' ⟨A', c', rfl, h3, h4⟩
                  exact ⟨A', c', rfl, Sl.own h3, h4⟩
                have hmay : May (n : Int) (at' : Int) (dn : Int) := by unfold May; omega
                have T1 := Lib.hid (fun w => touched_yes hmay w)
                have S1 := Lib.hid (fun w => size_yes hmay w)
                unfold TR at T1
                have hc33 := cnt_le at' dn (by omega)
                obtain ⟨f, hf⟩ : ∃ f, f = at' / 128 := ⟨_, rfl⟩
                obtain ⟨m, hm⟩ : ∃ m, m = cnt at' dn := ⟨_, rfl⟩
                have hLT : touched at' dn = run f m := by unfold touched; rw [hm, hf]
                have HIN : Hid (∀ j, j < m → hasB [strP (at' : Int) (dn : Int)] ((f + j : Nat) : Int) = true) := Lib.hid fun j hj => by
                  rw [has_touched at' dn _ (by omega), hLT]
                  exact decide_eq_true ((mem_run f m _).2 (by omega))
                rw [hLT, run_len] at T1
                have hfm : f + m ≤ 32 := by
                  rw [hf, hm]
                  unfold cnt
                  split <;> omega
                obtain ⟨n', hn'⟩ : ∃ n' : Nat, (n' : Int) = sizeZ (n : Int) (at' : Int) (dn : Int) := by
                  have h0 : 0 ≤ sizeZ (n : Int) (at' : Int) (dn : Int) := by unfold sizeZ; split <;> omega
                  obtain ⟨x, hx⟩ := Int.eq_ofNat_of_zero_le h0
                  exact ⟨x, hx.symm⟩
                rw [← hn'] at S1
                have hnx : n ≤ n' ∧ n' ≤ 1900 ∧ (dn = 0 ∨ at' + dn ≤ n') := by
                  unfold sizeZ at hn'
                  split at hn' <;> omega
                obtain ⟨hn'1, hn'2, hn'3⟩ := hnx
                have HDF : Hid (D = [] ∨ at' + D.length ≤ n') := Lib.hid (by
                  rcases hn'3 with h | h
                  · exact .inl (List.eq_nil_of_length_eq_zero (by omega))
                  · exact .inr (by omega))
                have HSTEP : Hid (Good (flB B D n at' f m) (newC C at' D n')) := Lib.hid (by
                  have := step_good HGD.out (a := at') (n := n') (d := D) (by rw [← hnC]; exact hn'1) HDF.out (fun _ => by omega)
                  rw [← hnC, ← hdl, ← hf, ← hm] at this
                  exact this)
                have HNL : Hid ((newC C at' D n').length = n') := Lib.hid (newC_len (by rw [← hnC]; exact hn'1) HDF.out)
                have HMAY := Lib.hid hmay
                have HNC := Lib.hid hnC
                clear hdl hsd hmay hc33 hf hm hLT hn' hn'3 hnC
                go_wp2_with (first
                  | (go_at_call 17; refine (PZ.out _).mono ?_; rintro e w4 ⟨rfl, rfl⟩)
                  | ((with_reducible show wpList _ _ _ (⟨some 75, _, _, _, _, _⟩ :: _) _ _); refine wpList_load_sl rfl _ rfl HCD.out rfl ?_))
                refine (T1.out _).mono ?_
                rintro e w5 ⟨Al, cl, rfl, hsl, hclm, hb5⟩
                replace HWS := Lib.hid (HWS.out.on hb5)
                have HLL := Lib.hid hsl
                have HLB : Hid (∀ ad, Al = some ad → 0 < m → ad.block ≠ b8) := Lib.hid fun ad e hm0 => by
                  obtain ⟨b, off, e', hb, hc⟩ := HLL.out.at hm0 (by decide)
                  rw [e] at e'
                  injection e' with e'
                  subst e'
                  exact HWS.out.blk.apart (hc 0 _ (by rw [List.getElem?_map, run_get f m 0 hm0]; rfl))
                clear hsl hb5 hcz hba hbd HCD
                go_wp2_with fail

                go_loopw [15] (fun kv wr => ∃ j : Nat, j ≤ m ∧ kv = .int .i64 (j : Int) ∧ WS w wr b8 A n c C (flB B D n at' f j) ∧ Sl wr wr.heap.size 1 Al m ((run f m).map (Value.int .i64))) (fun kv _ => m - (intOf kv).toNat)
                case atStart => exact ⟨0, by omega, rfl, by rw [fl_zero]; exact HWS.out, HLL.out⟩
                case round =>
                  obtain ⟨j, hj, rfl, hws, hll⟩ := hrel
                  replace HWS := Lib.hid hws
                  replace HLL := Lib.hid hll
                  clear hws hll
                  by_cases hltj : j < m
                  · have hltjI : (j : Int) < (m : Int) := by omega
                    have hj0 : (0 : Int) ≤ (j : Int) := by omega
                    obtain ⟨X, hX⟩ : ∃ X : Nat, X = f + j := ⟨_, rfl⟩
                    have hXI : (f : Int) + (j : Int) = (X : Int) := by omega
                    have hX0 : (0 : Int) ≤ (X : Int) := by omega
                    have hX32 : (X : Int) < 32 := by omega
                    obtain ⟨bl, ol, hAl, hblw, hcl'⟩ := HLL.out.at (by omega) (by decide)
                    have HCX : Hid (wr.cell? ⟨bl, ol + j, none⟩ = some (.int .i64 (X : Int))) := Lib.hid (hcl' j _ (by rw [List.getElem?_map, run_get f m j hltj, hX]; rfl))
                    obtain ⟨O, hO⟩ : ∃ O, O = B X := ⟨_, rfl⟩
                    obtain ⟨Ab, cb, hcb, hsb, hab⟩ := HWS.out.blk.cell X (by omega)
                    have hfn : flB B D n at' f j X = O := by rw [hX, fl_next, hO, hX]
                    rw [hfn] at hcb hsb
                    have HCB := Lib.hid hcb
                    have HSB := Lib.hid hsb
                    have hol : O.length = 0 ∨ O.length = 128 := by rw [hO]; exact HGD.out.1 X
                    have hb8w := HWS.out.blk.lt
                    have HB8 := Lib.hid hb8w
                    obtain ⟨GB, hGB⟩ : ∃ GB, GB = wr.heap.size := ⟨_, rfl⟩
                    have HGB : Hid (GB ≤ wr.heap.size) := Lib.hid (Nat.le_of_eq hGB)
                    have HOB : Hid (∀ b, (Value.slice A n c).ownBlock = some b → b < wr.heap.size) := Lib.hid fun b hb => (own_in HWS.out.own b hb).2
                    have HGB2 : Hid (wr.heap.size ≤ GB) := Lib.hid (Nat.le_of_eq hGB.symm)
                    have BYT : Hid (∀ w', Kept wr w' → Calls Try.prog 18 #[.slice Ai dn ci] w' fun e w'' => ∃ A' c', e = .returned (.slice A' dn c') ∧ Sl w'' w''.heap.size 1 A' dn (D.map bv) ∧ Below w'.heap.size w' w'') := Lib.hid fun w' hk => BYD.out w' (HWS.out.bel.trans (Below.mono hk HWS.out.bel.size))
                    have FIL : Hid (∀ A5 c5 w', Sl w' w'.heap.size 1 Ab O.length (O.map bv) → Sl w' w'.heap.size 1 A5 dn (D.map bv) → Calls Try.prog 19 #[.slice Ab O.length cb, .int .i64 (X : Int), .int .i64 (n : Int), .int .i64 (at' : Int), .slice A5 dn c5] w' fun e w'' => ∃ g, e = .returned (.tuple #[.slice (some ⟨g, 0, none⟩) 128 128, .bool true]) ∧ w'.heap.size ≤ g ∧ Sl w'' w''.heap.size 1 (some ⟨g, 0, none⟩) 128 ((fillL O D (128 * X) n at').map bv) ∧ Below w'.heap.size w' w'') := Lib.hid fun A5 c5 w' h1 h2 => by
                      have h3 := HDN.out
                      rw [h3] at h2 ⊢
                      refine fill_any h1 h2 (by rw [← h3]; exact HMAY.out) hol ?_
                      rw [hX, ← h3]
                      exact HIN.out j hltj
                    have HXE := Lib.hid hX
                    have HOE := Lib.hid hO
                    subst hAl
                    clear hX hO hcl' hcb hsb hab hfn hGB hol
                    have hcX := HCX.out
                    go_wp2_with fail
                    clear hcX
                    refine wp_region_rely (by kernel_rfl) (fun d u w' => match d with
                      | 16 => FY GB (fillL O D (128 * X) n at') u w'
                      | 17 => u = (.bool true : Value)
                      | 110 => FX GB (fillL O D (128 * X) n at') u w'
                      | 111 => u = (.slice (some ⟨bl, ol, none⟩) m cl : Value)
                      | 112 => u = (.int .i64 (j : Int) : Value)
                      | 113 => u = (.pointer (some ⟨bl, ol + j, none⟩) : Value)
                      | 114 => u = (.int .i64 (X : Int) : Value)
                      | 115 => u = (.pointer (some ⟨b8, X, none⟩) : Value)
                      | 116 => u = (.slice Ab O.length cb : Value)
                      | 117 => u = (.slice (some ⟨bl, ol, none⟩) m cl : Value)
                      | 118 => u = (.int .i64 (j : Int) : Value)
                      | 119 => u = (.pointer (some ⟨bl, ol + j, none⟩) : Value)
                      | 120 => u = (.int .i64 (X : Int) : Value)
                      | 121 => u = (.slice A n c : Value)
                      | 122 => u = (.int .i64 (n : Int) : Value)
                      | 123 => u = (.int .i64 (at' : Int) : Value)
                      | 124 => u = (.slice Ai dn ci : Value)
                      | 125 => ∃ A c, u = .slice A dn c ∧ Sl w' w'.heap.size 1 A dn (D.map bv)
                      | 126 => FX GB (fillL O D (128 * X) n at') u w'
                      | 127 => FY GB (fillL O D (128 * X) n at') u w'
                      | 128 => u = (.bool true : Value)
                      | _ => True) 198 rfl (by decide +kernel) [16, 17] ?_ ?_
                    · refine AllSteps.cons (Step.move _ rfl rfl fun a w' hl => hl.old 13 rfl) ?_
                      refine AllSteps.cons (Step.move _ rfl rfl fun a w' hl => hl.old 15 rfl) ?_
                      refine AllSteps.cons (Step.plain rfl fun a w' K hl hK => ?_) ?_
                      · obtain ⟨_, _, _, h111⟩ := hl.dep 0 111 rfl rfl
                        replace h111 : a.eval (.tmp 111) = _ := h111
                        obtain ⟨_, _, _, h112⟩ := hl.dep 1 112 rfl rfl
                        replace h112 : a.eval (.tmp 112) = _ := h112
                        refine wp_val (.pointer (some ⟨bl, ol + j, none⟩)) ?_ (hK _ _ (Kept.refl _) rfl)
                        clear hl hK
                        generalize a.eval = ρ at *
                        simp [execOp, go_sem, h111, h112, hltjI, hj0]
                        all_goals (try intro h)
                        all_goals (try omega)
                      refine AllSteps.cons (Step.plain rfl fun a w' K hl hK => ?_) ?_
                      · obtain ⟨_, _, _, h113⟩ := hl.dep 2 113 rfl rfl
                        replace h113 : a.eval (.tmp 113) = _ := h113
                        have hcell : w'.cell? ⟨bl, ol + j, none⟩ = some (.int .i64 (X : Int)) := (Below.cell hl.kept (p := ⟨bl, ol + j, none⟩) hblw).trans HCX.out
                        refine wp_val (.int .i64 (X : Int)) ?_ (hK _ _ (Kept.refl _) rfl)
                        clear hl hK
                        generalize a.eval = ρ at *
                        simp [execOp, go_sem, h113, hcell]
                      refine AllSteps.cons (Step.plain rfl fun a w' K hl hK => ?_) ?_
                      · have h8 : a.eval (.tmp 8) = (.pointer (some ⟨b8, 0, none⟩) : Value) := hl.old 8 rfl
                        obtain ⟨_, _, _, h114⟩ := hl.dep 3 114 rfl rfl
                        replace h114 : a.eval (.tmp 114) = _ := h114
                        refine wp_val (.pointer (some ⟨b8, X, none⟩)) ?_ (hK _ _ (Kept.refl _) rfl)
                        clear hl hK
                        generalize a.eval = ρ at *
                        simp [execOp, go_sem, h8, h114, hX32, hX0]
                        all_goals (try intro h)
                        all_goals (try omega)
                      refine AllSteps.cons (Step.plain rfl fun a w' K hl hK => ?_) ?_
                      · obtain ⟨_, _, _, h115⟩ := hl.dep 4 115 rfl rfl
                        replace h115 : a.eval (.tmp 115) = _ := h115
                        exact wp_load_sl rfl ((Below.cell hl.kept (p := ⟨b8, X, none⟩) hb8w).trans HCB.out) h115 (hK _ _ (Kept.refl _) rfl)
                      refine AllSteps.cons (Step.move _ rfl rfl fun a w' hl => hl.old 13 rfl) ?_
                      refine AllSteps.cons (Step.move _ rfl rfl fun a w' hl => hl.old 15 rfl) ?_
                      refine AllSteps.cons (Step.plain rfl fun a w' K hl hK => ?_) ?_
                      · obtain ⟨_, _, _, h117⟩ := hl.dep 6 117 rfl rfl
                        replace h117 : a.eval (.tmp 117) = _ := h117
                        obtain ⟨_, _, _, h118⟩ := hl.dep 7 118 rfl rfl
                        replace h118 : a.eval (.tmp 118) = _ := h118
                        refine wp_val (.pointer (some ⟨bl, ol + j, none⟩)) ?_ (hK _ _ (Kept.refl _) rfl)
                        clear hl hK
                        generalize a.eval = ρ at *
                        simp [execOp, go_sem, h117, h118, hltjI, hj0]
                        all_goals (try intro h)
                        all_goals (try omega)
                      refine AllSteps.cons (Step.plain rfl fun a w' K hl hK => ?_) ?_
                      · obtain ⟨_, _, _, h119⟩ := hl.dep 8 119 rfl rfl
                        replace h119 : a.eval (.tmp 119) = _ := h119
                        have hcell : w'.cell? ⟨bl, ol + j, none⟩ = some (.int .i64 (X : Int)) := (Below.cell hl.kept (p := ⟨bl, ol + j, none⟩) hblw).trans HCX.out
                        refine wp_val (.int .i64 (X : Int)) ?_ (hK _ _ (Kept.refl _) rfl)
                        clear hl hK
                        generalize a.eval = ρ at *
                        simp [execOp, go_sem, h119, hcell]
                      refine AllSteps.cons (Step.move _ rfl rfl fun a w' hl => hl.old 7 rfl) ?_
                      refine AllSteps.cons (Step.plain rfl fun a w' K hl hK => ?_) ?_
                      · obtain ⟨_, _, _, h121⟩ := hl.dep 10 121 rfl rfl
                        replace h121 : a.eval (.tmp 121) = _ := h121
                        refine wp_val (.int .i64 (n : Int)) ?_ (hK _ _ (Kept.refl _) rfl)
                        clear hl hK
                        generalize a.eval = ρ at *
                        simp [go_sem, h121]
                      refine AllSteps.cons (Step.move _ rfl rfl fun a w' hl => hl.old 11 rfl) ?_
                      refine AllSteps.cons (Step.move _ rfl rfl fun a w' hl => hl.old 12 rfl) ?_
                      refine AllSteps.cons (Step.plain rfl fun a w' K hl hK => ?_) ?_
                      · obtain ⟨_, _, _, h124⟩ := hl.dep 13 124 rfl rfl
                        replace h124 : a.eval (.tmp 124) = _ := h124
                        refine wp_call rfl Try.func18 rfl rfl #[.slice Ai dn ci] (by simp [h124]) ?_
                        refine (BYT.out w' hl.kept).mono ?_
                        rintro e w8 ⟨A8, c8, rfl, hs8, hb8⟩
                        exact ⟨_, rfl, hK _ _ hb8 ⟨A8, c8, rfl, hs8⟩⟩
                      refine AllSteps.cons (Step.plain rfl fun a w' K hl hK => ?_) ?_
                      · obtain ⟨_, _, _, h116⟩ := hl.dep 5 116 rfl rfl
                        replace h116 : a.eval (.tmp 116) = _ := h116
                        obtain ⟨_, _, _, h120⟩ := hl.dep 9 120 rfl rfl
                        replace h120 : a.eval (.tmp 120) = _ := h120
                        obtain ⟨_, _, _, h122⟩ := hl.dep 11 122 rfl rfl
                        replace h122 : a.eval (.tmp 122) = _ := h122
                        obtain ⟨_, _, _, h123⟩ := hl.dep 12 123 rfl rfl
                        replace h123 : a.eval (.tmp 123) = _ := h123
                        obtain ⟨_, w1, hk1, A5, c5, h125, hs125⟩ := hl.dep 14 125 rfl rfl
                        refine wp_call rfl Try.func19 rfl rfl #[.slice Ab O.length cb, .int .i64 (X : Int), .int .i64 (n : Int), .int .i64 (at' : Int), .slice A5 dn c5] (by simp [h116, h120, h122, h123, h125]) ?_
                        refine (FIL.out A5 c5 w' (HSB.out.on (Nat.le_refl _) hl.kept) (hs125.on (Nat.le_refl _) hk1)).mono ?_
                        rintro e w8 ⟨g8, rfl, hg8, hs8, hb8⟩
                        exact ⟨_, rfl, hK _ _ hb8 ⟨g8, rfl, Nat.le_trans (Nat.le_trans HGB.out hl.kept.size) hg8, hs8⟩⟩
                      refine AllSteps.cons (Step.move _ rfl rfl fun a w' hl => let ⟨_, _, hk, h⟩ := hl.dep 15 126 rfl rfl; FX.kept h hk) ?_
                      refine AllSteps.cons (Step.plain rfl fun a w' K hl hK => ?_) ?_
                      · obtain ⟨_, w1, hk1, g7, h110, hg110, hs110⟩ := hl.dep 16 110 rfl rfl
                        refine wp_val (.slice (some ⟨g7, 0, none⟩) 128 128) ?_ (hK _ _ (Kept.refl _) ⟨g7, rfl, hg110, hs110.on (Nat.le_refl _) hk1⟩)
                        clear hl hK
                        generalize a.eval = ρ at *
                        simp [execOp, go_sem, h110]
                      refine AllSteps.cons (Step.plain rfl fun a w' K hl hK => ?_) ?_
                      · obtain ⟨_, w1, hk1, g7, h110, hg110, hs110⟩ := hl.dep 16 110 rfl rfl
                        refine wp_val (.bool true) ?_ (hK _ _ (Kept.refl _) rfl)
                        clear hl hK
                        generalize a.eval = ρ at *
                        simp [execOp, go_sem, h110]
                      refine AllSteps.cons (Step.assign _ rfl rfl fun a w' hl => let ⟨_, _, hk, h⟩ := hl.dep 17 127 rfl rfl; FY.kept h hk) ?_
                      refine AllSteps.cons (Step.assign _ rfl rfl fun a w' hl => let ⟨_, _, _, h⟩ := hl.dep 18 128 rfl rfl; h) ?_
                      exact AllSteps.nil
                    · intro fv w9 hk9 hf
                      obtain ⟨w10, hk10, g, h16, hgg, hs16⟩ := hf 16 rfl rfl
                      obtain ⟨_, _, h17⟩ := hf 17 rfl rfl
                      replace h16 : fv 16 = .slice (some ⟨g, 0, none⟩) 128 128 := h16
                      replace h17 : fv 17 = .bool true := h17
                      simp only [Exit.then, fill, dsts, List.filterMap_cons, List.filterMap_nil, List.foldl_cons, List.foldl_nil, Act.put, h16, h17, List.setIfInBounds_toArray, List.set_cons_succ, List.set_cons_zero]
                      have HSG := Lib.hid (hs16.on (Nat.le_refl _) hk10)
                      replace HWS := Lib.hid (HWS.out.on hk9)
                      replace HLL := Lib.hid (HLL.out.on (Nat.le_refl _) hk9)
                      have hcX9 := (Below.cell hk9 (p := ⟨bl, ol + j, none⟩) hblw).trans HCX.out
                      have HGB9 : Hid (g ≠ b8 ∧ (Value.slice A n c).ownBlock ≠ some g) := Lib.hid (by
                        have := HOB.out
                        have h1 := HB8.out
                        have h2 := HGB2.out
                        refine ⟨by omega, fun e => ?_⟩
                        have h3 := HOB.out g e
                        omega)
                      clear hf h16 h17 hs16 hk9 hk10 hgg
                      go_wp2_with ((with_reducible show wpList _ _ _ (⟨none, Op.store 36 (.tmp 141) _, _, _, _, _⟩ :: _) _ _); refine wpList_store_sl rfl _ _ rfl HWS.out.blk X (by omega) (L := fillL O D (128 * X) n at') (fillL_len _ _ _ _ _).symm rfl rfl HSG.out (fun ad e _ => by injection e with e; subst e; exact ⟨HGB9.out.2, HGB9.out.1⟩) ?_; intro w14 hbk14 hon14)
                      have HWN : Hid (WS w w14 b8 A n c C (flB B D n at' f (j + 1))) := Lib.hid (by
                        rw [fl_succ]
                        refine ⟨own_other HWS.out.own hon14 HWS.out.blk.own8, ?_, hon14.below HWS.out.bel h08⟩
                        rw [← HXE.out, ← HOE.out]
                        exact hbk14)
                      have HLN := Lib.hid (sl_block HLL.out hon14.size (fun ad e hm => hon14.block _ (HLB.out ad e hm)))
                      clear hbk14 hon14
                      go_wp2_with fail
                      go_roundw
                      case rel => exact ⟨j + 1, by omega, by go_num, HWN.out, HLN.out⟩
                      case measure => simp [intOf]; omega
                  · have hgej : (m : Int) ≤ (j : Int) := by omega
                    obtain rfl : m = j := by omega
                    have HWM := Lib.hid HWS.out
                    clear HLL HLB HIN
                    go_wp2_with fail
                    refine (S1.out _).mono ?_
                    rintro e w' ⟨rfl, rfl⟩
                    go_wp2_with fail
                    go_loopw [7] (fun cv wr => ∃ (A : Option Addr) (q c : Nat), cv = .slice A q c ∧ n ≤ q ∧ q ≤ n' ∧ WS w wr b8 A q c (C ++ zer (q - n)) (flB B D n at' f m)) (fun cv _ => n' - lenV cv)
                    case atStart => exact ⟨A, n, c, rfl, Nat.le_refl _, hn'1, by rw [Nat.sub_self]; show WS w _ b8 A n c (C ++ []) _; rw [List.append_nil]; exact HWM.out⟩
                    case round =>
                      obtain ⟨A2, q, c2, rfl, hq1, hq2, hws⟩ := hrel
                      replace HWS := Lib.hid hws
                      have hqc := hws.room.2
                      clear hws
                      by_cases hltq : q < n'
                      · have hltqI : (q : Int) < (n' : Int) := by omega
                        have HZQ : Hid ((C ++ zer (q - n)).map bv ++ [.int .u8 0] = (C ++ zer (q + 1 - n)).map bv) := Lib.hid (by
                          rw [show q + 1 - n = (q - n) + 1 by omega]
                          unfold zer
                          rw [List.replicate_succ', ← List.append_assoc, List.map_append (l₂ := [(0 : UInt8)])]
                          rfl)
                        have hBw := HWS.out.bel.size
                        go_wp2_with (at_builtin; refine wpList_append_mine rfl (.tmp 157) (.tmp 158) _ _ rfl w.heap.size 5 i0 (.int .u8 0) 1 1 hz1 hz2 rfl (by decide) _ _ _ rfl (Mine.alloc (.inr HWS.out.own) _) _ 1 [.int .u8 0] rfl (Gives.elem Try.underlying36 hi0 hz0 hz1 _ rfl) (by simp only [maxLen]; omega) (by omega) (by simp; omega) ?_; intro A9 c9 w9 hm9 hg9 hb9 hat9 hown9; have ho9 := hown9 (.inl (by decide)); rw [HZQ.out] at ho9; have HWN : Hid (WS w w9 b8 A9 (q + 1) c9 (C ++ zer (q + 1 - n)) (flB B D n at' f m)) := Lib.hid ⟨ho9, (HWS.out.blk.on ((Below.refl _ _).alloc (Nat.le_refl _) _)).grown hg9 hat9, (HWS.out.bel.alloc hBw _).trans hb9⟩; clear ho9 hm9 hg9 hb9 hat9 hown9)
                        go_roundw
                        case rel => exact ⟨A9, q + 1, c9, rfl, by omega, by omega, HWN.out⟩
                        case measure => simp [lenV]; omega
                      · have hgeq : (n' : Int) ≤ (q : Int) := by omega
                        obtain rfl : n' = q := by omega
                        obtain ⟨p, hp⟩ : ∃ p : Nat, p = min at' n' := ⟨_, rfl⟩
                        have hpI : (if n' < at' then (n' : Int) else (at' : Int)) = (p : Int) := by split <;> omega
                        have hpn : p ≤ n' := by omega
                        have hlq := HWS.out.room.1
                        have HPE := Lib.hid hp
                        have hfit : D = [] ∨ p + D.length ≤ (C ++ zer (n' - n)).length := by
                          have := HDN.out
                          rcases HDF.out with h | h
                          · exact .inl h
                          · exact .inr (by omega)
                        have HFIT := Lib.hid hfit
                        have HLQ := Lib.hid hlq
                        have HSDR := Lib.hid (HSD.out.on (Nat.le_refl _) HWS.out.bel)
                        rw [HDN.out] at HSDR
                        have hnn : ((n' : Int) != (n' : Int)) = false := by simp
                        clear hp hfit hlq
                        go_wp2_with (first
                          | ((with_reducible show wpList _ _ _ (⟨some 165, _, _, _, _, _⟩ :: _) _ _); refine wpList_slice_tail rfl _ _ rfl rfl HWS.out.own p (by show Value.int .i64 _ = _; congr 1) hpn hqc ?_; intro A' hA')
                          | ((with_reducible show wpList _ _ _ (⟨some 167, _, _, _, _, _⟩ :: _) _ _); refine wpList_copy_mid rfl _ _ rfl HWS.out.own HLQ.out rfl hA' HFIT.out HSDR.out rfl (by rw [← HDN.out]; rfl) ?_; intro w17 v17 hown17 hor17))
                        have HWC : Hid (WS w w17 b8 A2 n' c2 (newC C at' D n') (flB B D n at' f m)) := Lib.hid (by
                          have e : wrL (C ++ zer (n' - n)) p D = newC C at' D n' := by unfold newC; rw [HPE.out, ← HNC.out]
                          rw [e] at hown17
                          refine ⟨hown17, ?_, ?_⟩
                          · rcases hor17 with rfl | ⟨g, hg, hon⟩
                            · exact HWS.out.blk
                            · exact HWS.out.blk.only (by rw [hg]; rfl) hon
                          · rcases hor17 with rfl | ⟨g, hg, hon⟩
                            · exact HWS.out.bel
                            · exact hon.below HWS.out.bel (own_in HWS.out.own g (by rw [hg]; rfl)).1)
                        have HVAL : Hid (∀ k : Nat, k < n' → (flB B D n at' f m (k / 128)).getD (k % 128) 0 = (newC C at' D n').getD k 0) := Lib.hid fun k hk => good_at HSTEP.out (by rw [HNL.out]; exact hk) (by rw [HNL.out]; omega)
                        clear hown17 hor17 HWM HSDR HFIT HLQ
                        go_loop [20] (fun kv => ∃ k : Nat, k ≤ n' ∧ kv = .int .i64 (k : Int)) (fun kv => n' - (intOf kv).toNat)
                        case atStart => exact ⟨0, by omega, rfl⟩
                        case round =>
                          obtain ⟨k, hk, rfl⟩ := hrel
                          by_cases hltk : k < n'
                          · have hltkI : (k : Int) < (n' : Int) := by omega
                            have hk0 : (0 : Int) ≤ (k : Int) := by omega
                            obtain ⟨kq, hkq⟩ : ∃ kq, kq = k / 128 := ⟨_, rfl⟩
                            obtain ⟨kr, hkr⟩ : ∃ kr, kr = k % 128 := ⟨_, rfl⟩
                            have hkqI : (k : Int) / 128 = (kq : Int) := by omega
                            have hkrI : (k : Int) % 128 = (kr : Int) := by omega
                            have hq32 : (kq : Int) < 32 := by omega
                            have hq0 : (0 : Int) ≤ (kq : Int) := by omega
                            have hr128 : (kr : Int) < 128 := by omega
                            have hr0 : (0 : Int) ≤ (kr : Int) := by omega
                            obtain ⟨x, hx⟩ : ∃ x : UInt8, x = (newC C at' D n').getD k 0 := ⟨_, rfl⟩
                            have hv := HVAL.out k hltk
                            rw [← hx, ← hkq, ← hkr] at hv
                            obtain ⟨Ab, cb, hcb, hsb, _⟩ := HWC.out.blk.cell kq (by omega)
                            have hbl := fl_len HGD.out.1 D n at' f m kq
                            obtain ⟨bc, oc, rfl, hbc, hcc⟩ := HWC.out.sl.at (by omega) (by decide)
                            have hck := hcc k (bv x) (by
                              have hl := HNL.out
                              rw [bv_at _ k (by omega), hx, List.getD_eq_getElem?_getD, List.getElem?_eq_getElem (by omega)]
                              rfl)
                            unfold bv at hck
                            have hxx : ((x.toNat : Int) != (x.toNat : Int)) = false := by simp
                            rcases hbl with hbl | hbl
                            · rw [hbl] at hcb
                              rw [List.eq_nil_of_length_eq_zero hbl] at hv
                              have hx0 : (x.toNat : Int) = 0 := by rw [← hv]; rfl
                              rw [hx0] at hck
                              have HCBB := Lib.hid hcb
                              clear hv hx hsb hcb hcc hxx hx0 hkq hkr hbl
                              go_wp2_with ((with_reducible show wpList _ _ _ (⟨some 180, _, _, _, _, _⟩ :: _) _ _); refine wpList_load_sl rfl _ rfl HCBB.out rfl ?_)
                              go_round
                              case rel => exact ⟨k + 1, by omega, by go_num⟩
                              case measure => simp [intOf]; omega
                            · obtain ⟨L, hL⟩ : ∃ L, L = flB B D n at' f m kq := ⟨_, rfl⟩
                              rw [← hL] at hv hsb hbl hcb
                              rw [hbl] at hcb hsb
                              obtain ⟨bb, ob, rfl, hbb, hcc2⟩ := hsb.at (by omega) (by decide)
                              have hcr := hcc2 kr (bv x) (by rw [bv_at L kr (by omega), ← hv, List.getD_eq_getElem?_getD, List.getElem?_eq_getElem (by omega)]; rfl)
                              unfold bv at hcr
                              have HCBB := Lib.hid hcb
                              clear hv hx hsb hcb hcc hcc2 hkq hkr hbl hL
                              go_wp2_with (first
                                | ((with_reducible show wpList _ _ _ (⟨some 180, _, _, _, _, _⟩ :: _) _ _); refine wpList_load_sl rfl _ rfl HCBB.out rfl ?_)
                                | ((with_reducible show wpList _ _ _ (⟨some 186, _, _, _, _, _⟩ :: _) _ _); refine wpList_load_sl rfl _ rfl HCBB.out rfl ?_))
                              go_round
                              case rel => exact ⟨k + 1, by omega, by go_num⟩
                              case measure => simp [intOf]; omega
                          · have hgek : (n' : Int) ≤ (k : Int) := by omega
                            go_wp2_with fail
                            go_roundw
                            case rel => exact ⟨i + 1, newC C at' D n', flB B D n at' f m, A2, n', c2, by omega, by go_num, rfl, hn'2, HSTEP.out, HWC.out⟩
                            case measure => simp [intOf]; omega
              · have hbg : ∀ L, rows[i]? = some L → 400 < L.length := fun L h => by
                  rw [List.getD_eq_getElem?_getD, h] at hbig
                  simpa using hbig
                obtain ⟨z, hz⟩ : ∃ z, ats[i]? = some z := ⟨_, List.getElem?_eq_getElem hl1⟩
                obtain ⟨zb1, zb2⟩ := HATB.out z (List.mem_of_getElem? hz)
                have PZ := Lib.hid (fun w => Pl.place_any z 1500 w (by omega) (by omega) zb1 zb2)
                obtain ⟨q0, q1⟩ := Pl.place_bd z 1500 (by omega)
                generalize Pl.placeZ z 1500 = at0 at *
                obtain ⟨at', rfl⟩ := Int.eq_ofNat_of_zero_le q0
                obtain ⟨L, hL⟩ : ∃ L, rows[i]? = some L := ⟨_, List.getElem?_eq_getElem hl2⟩
                obtain ⟨cells, hcs, hce⟩ := HR.out
                obtain ⟨Ai, ci, hci, hsi, hli, _⟩ := hce i L hL
                obtain ⟨bd, od, rfl, hbd, hcd⟩ := hcs.at (by omega) (by decide)
                obtain ⟨ba, oa, rfl, hba, hca⟩ := HAT.out.at (by omega) (by decide)
                have hcz : wr.cell? ⟨ba, oa + i, none⟩ = some (.int .i64 z) := (Below.cell HWS.out.bel (p := ⟨ba, oa + i, none⟩) hba).trans (hca i _ (by rw [List.getElem?_map, hz]; rfl))
                obtain ⟨ln, hln⟩ : ∃ ln, ln = L.length := ⟨_, rfl⟩
                rw [← hln] at hci hsi hli
                have h4 : 400 < ln := by rw [hln]; exact hbg L hL
                have HCD : Hid (wr.cell? ⟨bd, od + i, none⟩ = some (.slice Ai ln ci)) := Lib.hid ((Below.cell HWS.out.bel (p := ⟨bd, od + i, none⟩) hbd).trans (hcd i _ hci))

                have h400 : 400 < ln := by omega
                have h400I : (400 : Int) < (ln : Int) := by omega
                obtain ⟨D, hD⟩ : ∃ D, D = L.take 400 := ⟨_, rfl⟩
                obtain ⟨dn, hdn⟩ : ∃ dn : Nat, dn = 400 := ⟨_, rfl⟩
                have hdl : dn = D.length := by rw [hD, List.length_take]; omega
                have hsd : Sl w w.heap.size 1 Ai dn (D.map bv) := by rw [hD, hdn]; exact sl_take hsi (by omega)
                have hdci : dn ≤ ci := by omega
                have hdn4 : dn ≤ 400 := by omega
                have HDN4 := Lib.hid hdn
                clear hdn

                clear hz zb1 zb2 hL hcs hce hci hsi hcd hca hln hD
                have HDN := Lib.hid hdl
                have HSD := Lib.hid hsd
                have BYD : Hid (∀ w', Below w.heap.size w w' → Calls Try.prog 18 #[.slice Ai dn ci] w' fun e w'' => ∃ A' c', e = .returned (.slice A' dn c') ∧ Sl w'' w''.heap.size 1 A' dn (D.map bv) ∧ Below w'.heap.size w' w'') := Lib.hid fun w' hk => by
                  have h2 := HSD.out.on (Nat.le_refl _) hk
                  rw [hdl] at h2 ⊢
                  refine (bytes_own Ai D ci w' h2 (by omega) (by omega)).mono ?_
                  rintro e w'' ⟨A', c', rfl, h3, h4⟩
                  exact ⟨A', c', rfl, Sl.own h3, h4⟩
                have hmay : May (n : Int) (at' : Int) (dn : Int) := by unfold May; omega
                have T1 := Lib.hid (fun w => touched_yes hmay w)
                have S1 := Lib.hid (fun w => size_yes hmay w)
                unfold TR at T1
                have hc33 := cnt_le at' dn (by omega)
                obtain ⟨f, hf⟩ : ∃ f, f = at' / 128 := ⟨_, rfl⟩
                obtain ⟨m, hm⟩ : ∃ m, m = cnt at' dn := ⟨_, rfl⟩
                have hLT : touched at' dn = run f m := by unfold touched; rw [hm, hf]
                have HIN : Hid (∀ j, j < m → hasB [strP (at' : Int) (dn : Int)] ((f + j : Nat) : Int) = true) := Lib.hid fun j hj => by
                  rw [has_touched at' dn _ (by omega), hLT]
                  exact decide_eq_true ((mem_run f m _).2 (by omega))
                rw [hLT, run_len] at T1
                have hfm : f + m ≤ 32 := by
                  rw [hf, hm]
                  unfold cnt
                  split <;> omega
                obtain ⟨n', hn'⟩ : ∃ n' : Nat, (n' : Int) = sizeZ (n : Int) (at' : Int) (dn : Int) := by
                  have h0 : 0 ≤ sizeZ (n : Int) (at' : Int) (dn : Int) := by unfold sizeZ; split <;> omega
                  obtain ⟨x, hx⟩ := Int.eq_ofNat_of_zero_le h0
                  exact ⟨x, hx.symm⟩
                rw [← hn'] at S1
                have hnx : n ≤ n' ∧ n' ≤ 1900 ∧ (dn = 0 ∨ at' + dn ≤ n') := by
                  unfold sizeZ at hn'
                  split at hn' <;> omega
                obtain ⟨hn'1, hn'2, hn'3⟩ := hnx
                have HDF : Hid (D = [] ∨ at' + D.length ≤ n') := Lib.hid (by
                  rcases hn'3 with h | h
                  · exact .inl (List.eq_nil_of_length_eq_zero (by omega))
                  · exact .inr (by omega))
                have HSTEP : Hid (Good (flB B D n at' f m) (newC C at' D n')) := Lib.hid (by
                  have := step_good HGD.out (a := at') (n := n') (d := D) (by rw [← hnC]; exact hn'1) HDF.out (fun _ => by omega)
                  rw [← hnC, ← hdl, ← hf, ← hm] at this
                  exact this)
                have HNL : Hid ((newC C at' D n').length = n') := Lib.hid (newC_len (by rw [← hnC]; exact hn'1) HDF.out)
                have HMAY := Lib.hid hmay
                have HNC := Lib.hid hnC
                clear hdl hsd hmay hc33 hf hm hLT hn' hn'3 hnC
                go_wp2_with (first
                  | (go_at_call 17; refine (PZ.out _).mono ?_; rintro e w4 ⟨rfl, rfl⟩)
                  | ((with_reducible show wpList _ _ _ (⟨some 75, _, _, _, _, _⟩ :: _) _ _); refine wpList_load_sl rfl _ rfl HCD.out rfl ?_)
                  | ((with_reducible show wpList _ _ _ (⟨some 80, _, _, _, _, _⟩ :: _) _ _); refine wpList_slice_head rfl _ _ rfl rfl dn (by rw [HDN4.out]; rfl) (by omega) (by omega) ?_))
                refine (T1.out _).mono ?_
                rintro e w5 ⟨Al, cl, rfl, hsl, hclm, hb5⟩
                replace HWS := Lib.hid (HWS.out.on hb5)
                have HLL := Lib.hid hsl
                have HLB : Hid (∀ ad, Al = some ad → 0 < m → ad.block ≠ b8) := Lib.hid fun ad e hm0 => by
                  obtain ⟨b, off, e', hb, hc⟩ := HLL.out.at hm0 (by decide)
                  rw [e] at e'
                  injection e' with e'
                  subst e'
                  exact HWS.out.blk.apart (hc 0 _ (by rw [List.getElem?_map, run_get f m 0 hm0]; rfl))
                clear hsl hb5 hcz hba hbd HCD
                go_wp2_with fail

                go_loopw [15] (fun kv wr => ∃ j : Nat, j ≤ m ∧ kv = .int .i64 (j : Int) ∧ WS w wr b8 A n c C (flB B D n at' f j) ∧ Sl wr wr.heap.size 1 Al m ((run f m).map (Value.int .i64))) (fun kv _ => m - (intOf kv).toNat)
                case atStart => exact ⟨0, by omega, rfl, by rw [fl_zero]; exact HWS.out, HLL.out⟩
                case round =>
                  obtain ⟨j, hj, rfl, hws, hll⟩ := hrel
                  replace HWS := Lib.hid hws
                  replace HLL := Lib.hid hll
                  clear hws hll
                  by_cases hltj : j < m
                  · have hltjI : (j : Int) < (m : Int) := by omega
                    have hj0 : (0 : Int) ≤ (j : Int) := by omega
                    obtain ⟨X, hX⟩ : ∃ X : Nat, X = f + j := ⟨_, rfl⟩
                    have hXI : (f : Int) + (j : Int) = (X : Int) := by omega
                    have hX0 : (0 : Int) ≤ (X : Int) := by omega
                    have hX32 : (X : Int) < 32 := by omega
                    obtain ⟨bl, ol, hAl, hblw, hcl'⟩ := HLL.out.at (by omega) (by decide)
                    have HCX : Hid (wr.cell? ⟨bl, ol + j, none⟩ = some (.int .i64 (X : Int))) := Lib.hid (hcl' j _ (by rw [List.getElem?_map, run_get f m j hltj, hX]; rfl))
                    obtain ⟨O, hO⟩ : ∃ O, O = B X := ⟨_, rfl⟩
                    obtain ⟨Ab, cb, hcb, hsb, hab⟩ := HWS.out.blk.cell X (by omega)
                    have hfn : flB B D n at' f j X = O := by rw [hX, fl_next, hO, hX]
                    rw [hfn] at hcb hsb
                    have HCB := Lib.hid hcb
                    have HSB := Lib.hid hsb
                    have hol : O.length = 0 ∨ O.length = 128 := by rw [hO]; exact HGD.out.1 X
                    have hb8w := HWS.out.blk.lt
                    have HB8 := Lib.hid hb8w
                    obtain ⟨GB, hGB⟩ : ∃ GB, GB = wr.heap.size := ⟨_, rfl⟩
                    have HGB : Hid (GB ≤ wr.heap.size) := Lib.hid (Nat.le_of_eq hGB)
                    have HOB : Hid (∀ b, (Value.slice A n c).ownBlock = some b → b < wr.heap.size) := Lib.hid fun b hb => (own_in HWS.out.own b hb).2
                    have HGB2 : Hid (wr.heap.size ≤ GB) := Lib.hid (Nat.le_of_eq hGB.symm)
                    have BYT : Hid (∀ w', Kept wr w' → Calls Try.prog 18 #[.slice Ai dn ci] w' fun e w'' => ∃ A' c', e = .returned (.slice A' dn c') ∧ Sl w'' w''.heap.size 1 A' dn (D.map bv) ∧ Below w'.heap.size w' w'') := Lib.hid fun w' hk => BYD.out w' (HWS.out.bel.trans (Below.mono hk HWS.out.bel.size))
                    have FIL : Hid (∀ A5 c5 w', Sl w' w'.heap.size 1 Ab O.length (O.map bv) → Sl w' w'.heap.size 1 A5 dn (D.map bv) → Calls Try.prog 19 #[.slice Ab O.length cb, .int .i64 (X : Int), .int .i64 (n : Int), .int .i64 (at' : Int), .slice A5 dn c5] w' fun e w'' => ∃ g, e = .returned (.tuple #[.slice (some ⟨g, 0, none⟩) 128 128, .bool true]) ∧ w'.heap.size ≤ g ∧ Sl w'' w''.heap.size 1 (some ⟨g, 0, none⟩) 128 ((fillL O D (128 * X) n at').map bv) ∧ Below w'.heap.size w' w'') := Lib.hid fun A5 c5 w' h1 h2 => by
                      have h3 := HDN.out
                      rw [h3] at h2 ⊢
                      refine fill_any h1 h2 (by rw [← h3]; exact HMAY.out) hol ?_
                      rw [hX, ← h3]
                      exact HIN.out j hltj
                    have HXE := Lib.hid hX
                    have HOE := Lib.hid hO
                    subst hAl
                    clear hX hO hcl' hcb hsb hab hfn hGB hol
                    have hcX := HCX.out
                    go_wp2_with fail
                    clear hcX
                    refine wp_region_rely (by kernel_rfl) (fun d u w' => match d with
                      | 16 => FY GB (fillL O D (128 * X) n at') u w'
                      | 17 => u = (.bool true : Value)
                      | 110 => FX GB (fillL O D (128 * X) n at') u w'
                      | 111 => u = (.slice (some ⟨bl, ol, none⟩) m cl : Value)
                      | 112 => u = (.int .i64 (j : Int) : Value)
                      | 113 => u = (.pointer (some ⟨bl, ol + j, none⟩) : Value)
                      | 114 => u = (.int .i64 (X : Int) : Value)
                      | 115 => u = (.pointer (some ⟨b8, X, none⟩) : Value)
                      | 116 => u = (.slice Ab O.length cb : Value)
                      | 117 => u = (.slice (some ⟨bl, ol, none⟩) m cl : Value)
                      | 118 => u = (.int .i64 (j : Int) : Value)
                      | 119 => u = (.pointer (some ⟨bl, ol + j, none⟩) : Value)
                      | 120 => u = (.int .i64 (X : Int) : Value)
                      | 121 => u = (.slice A n c : Value)
                      | 122 => u = (.int .i64 (n : Int) : Value)
                      | 123 => u = (.int .i64 (at' : Int) : Value)
                      | 124 => u = (.slice Ai dn ci : Value)
                      | 125 => ∃ A c, u = .slice A dn c ∧ Sl w' w'.heap.size 1 A dn (D.map bv)
                      | 126 => FX GB (fillL O D (128 * X) n at') u w'
                      | 127 => FY GB (fillL O D (128 * X) n at') u w'
                      | 128 => u = (.bool true : Value)
                      | _ => True) 198 rfl (by decide +kernel) [16, 17] ?_ ?_
                    · refine AllSteps.cons (Step.move _ rfl rfl fun a w' hl => hl.old 13 rfl) ?_
                      refine AllSteps.cons (Step.move _ rfl rfl fun a w' hl => hl.old 15 rfl) ?_
                      refine AllSteps.cons (Step.plain rfl fun a w' K hl hK => ?_) ?_
                      · obtain ⟨_, _, _, h111⟩ := hl.dep 0 111 rfl rfl
                        replace h111 : a.eval (.tmp 111) = _ := h111
                        obtain ⟨_, _, _, h112⟩ := hl.dep 1 112 rfl rfl
                        replace h112 : a.eval (.tmp 112) = _ := h112
                        refine wp_val (.pointer (some ⟨bl, ol + j, none⟩)) ?_ (hK _ _ (Kept.refl _) rfl)
                        clear hl hK
                        generalize a.eval = ρ at *
                        simp [execOp, go_sem, h111, h112, hltjI, hj0]
                        all_goals (try intro h)
                        all_goals (try omega)
                      refine AllSteps.cons (Step.plain rfl fun a w' K hl hK => ?_) ?_
                      · obtain ⟨_, _, _, h113⟩ := hl.dep 2 113 rfl rfl
                        replace h113 : a.eval (.tmp 113) = _ := h113
                        have hcell : w'.cell? ⟨bl, ol + j, none⟩ = some (.int .i64 (X : Int)) := (Below.cell hl.kept (p := ⟨bl, ol + j, none⟩) hblw).trans HCX.out
                        refine wp_val (.int .i64 (X : Int)) ?_ (hK _ _ (Kept.refl _) rfl)
                        clear hl hK
                        generalize a.eval = ρ at *
                        simp [execOp, go_sem, h113, hcell]
                      refine AllSteps.cons (Step.plain rfl fun a w' K hl hK => ?_) ?_
                      · have h8 : a.eval (.tmp 8) = (.pointer (some ⟨b8, 0, none⟩) : Value) := hl.old 8 rfl
                        obtain ⟨_, _, _, h114⟩ := hl.dep 3 114 rfl rfl
                        replace h114 : a.eval (.tmp 114) = _ := h114
                        refine wp_val (.pointer (some ⟨b8, X, none⟩)) ?_ (hK _ _ (Kept.refl _) rfl)
                        clear hl hK
                        generalize a.eval = ρ at *
                        simp [execOp, go_sem, h8, h114, hX32, hX0]
                        all_goals (try intro h)
                        all_goals (try omega)
                      refine AllSteps.cons (Step.plain rfl fun a w' K hl hK => ?_) ?_
                      · obtain ⟨_, _, _, h115⟩ := hl.dep 4 115 rfl rfl
                        replace h115 : a.eval (.tmp 115) = _ := h115
                        exact wp_load_sl rfl ((Below.cell hl.kept (p := ⟨b8, X, none⟩) hb8w).trans HCB.out) h115 (hK _ _ (Kept.refl _) rfl)
                      refine AllSteps.cons (Step.move _ rfl rfl fun a w' hl => hl.old 13 rfl) ?_
                      refine AllSteps.cons (Step.move _ rfl rfl fun a w' hl => hl.old 15 rfl) ?_
                      refine AllSteps.cons (Step.plain rfl fun a w' K hl hK => ?_) ?_
                      · obtain ⟨_, _, _, h117⟩ := hl.dep 6 117 rfl rfl
                        replace h117 : a.eval (.tmp 117) = _ := h117
                        obtain ⟨_, _, _, h118⟩ := hl.dep 7 118 rfl rfl
                        replace h118 : a.eval (.tmp 118) = _ := h118
                        refine wp_val (.pointer (some ⟨bl, ol + j, none⟩)) ?_ (hK _ _ (Kept.refl _) rfl)
                        clear hl hK
                        generalize a.eval = ρ at *
                        simp [execOp, go_sem, h117, h118, hltjI, hj0]
                        all_goals (try intro h)
                        all_goals (try omega)
                      refine AllSteps.cons (Step.plain rfl fun a w' K hl hK => ?_) ?_
                      · obtain ⟨_, _, _, h119⟩ := hl.dep 8 119 rfl rfl
                        replace h119 : a.eval (.tmp 119) = _ := h119
                        have hcell : w'.cell? ⟨bl, ol + j, none⟩ = some (.int .i64 (X : Int)) := (Below.cell hl.kept (p := ⟨bl, ol + j, none⟩) hblw).trans HCX.out
                        refine wp_val (.int .i64 (X : Int)) ?_ (hK _ _ (Kept.refl _) rfl)
                        clear hl hK
                        generalize a.eval = ρ at *
                        simp [execOp, go_sem, h119, hcell]
                      refine AllSteps.cons (Step.move _ rfl rfl fun a w' hl => hl.old 7 rfl) ?_
                      refine AllSteps.cons (Step.plain rfl fun a w' K hl hK => ?_) ?_
                      · obtain ⟨_, _, _, h121⟩ := hl.dep 10 121 rfl rfl
                        replace h121 : a.eval (.tmp 121) = _ := h121
                        refine wp_val (.int .i64 (n : Int)) ?_ (hK _ _ (Kept.refl _) rfl)
                        clear hl hK
                        generalize a.eval = ρ at *
                        simp [go_sem, h121]
                      refine AllSteps.cons (Step.move _ rfl rfl fun a w' hl => hl.old 11 rfl) ?_
                      refine AllSteps.cons (Step.move _ rfl rfl fun a w' hl => hl.old 12 rfl) ?_
                      refine AllSteps.cons (Step.plain rfl fun a w' K hl hK => ?_) ?_
                      · obtain ⟨_, _, _, h124⟩ := hl.dep 13 124 rfl rfl
                        replace h124 : a.eval (.tmp 124) = _ := h124
                        refine wp_call rfl Try.func18 rfl rfl #[.slice Ai dn ci] (by simp [h124]) ?_
                        refine (BYT.out w' hl.kept).mono ?_
                        rintro e w8 ⟨A8, c8, rfl, hs8, hb8⟩
                        exact ⟨_, rfl, hK _ _ hb8 ⟨A8, c8, rfl, hs8⟩⟩
                      refine AllSteps.cons (Step.plain rfl fun a w' K hl hK => ?_) ?_
                      · obtain ⟨_, _, _, h116⟩ := hl.dep 5 116 rfl rfl
                        replace h116 : a.eval (.tmp 116) = _ := h116
                        obtain ⟨_, _, _, h120⟩ := hl.dep 9 120 rfl rfl
                        replace h120 : a.eval (.tmp 120) = _ := h120
                        obtain ⟨_, _, _, h122⟩ := hl.dep 11 122 rfl rfl
                        replace h122 : a.eval (.tmp 122) = _ := h122
                        obtain ⟨_, _, _, h123⟩ := hl.dep 12 123 rfl rfl
                        replace h123 : a.eval (.tmp 123) = _ := h123
                        obtain ⟨_, w1, hk1, A5, c5, h125, hs125⟩ := hl.dep 14 125 rfl rfl
                        refine wp_call rfl Try.func19 rfl rfl #[.slice Ab O.length cb, .int .i64 (X : Int), .int .i64 (n : Int), .int .i64 (at' : Int), .slice A5 dn c5] (by simp [h116, h120, h122, h123, h125]) ?_
                        refine (FIL.out A5 c5 w' (HSB.out.on (Nat.le_refl _) hl.kept) (hs125.on (Nat.le_refl _) hk1)).mono ?_
                        rintro e w8 ⟨g8, rfl, hg8, hs8, hb8⟩
                        exact ⟨_, rfl, hK _ _ hb8 ⟨g8, rfl, Nat.le_trans (Nat.le_trans HGB.out hl.kept.size) hg8, hs8⟩⟩
                      refine AllSteps.cons (Step.move _ rfl rfl fun a w' hl => let ⟨_, _, hk, h⟩ := hl.dep 15 126 rfl rfl; FX.kept h hk) ?_
                      refine AllSteps.cons (Step.plain rfl fun a w' K hl hK => ?_) ?_
                      · obtain ⟨_, w1, hk1, g7, h110, hg110, hs110⟩ := hl.dep 16 110 rfl rfl
                        refine wp_val (.slice (some ⟨g7, 0, none⟩) 128 128) ?_ (hK _ _ (Kept.refl _) ⟨g7, rfl, hg110, hs110.on (Nat.le_refl _) hk1⟩)
                        clear hl hK
                        generalize a.eval = ρ at *
                        simp [execOp, go_sem, h110]
                      refine AllSteps.cons (Step.plain rfl fun a w' K hl hK => ?_) ?_
                      · obtain ⟨_, w1, hk1, g7, h110, hg110, hs110⟩ := hl.dep 16 110 rfl rfl
                        refine wp_val (.bool true) ?_ (hK _ _ (Kept.refl _) rfl)
                        clear hl hK
                        generalize a.eval = ρ at *
                        simp [execOp, go_sem, h110]
                      refine AllSteps.cons (Step.assign _ rfl rfl fun a w' hl => let ⟨_, _, hk, h⟩ := hl.dep 17 127 rfl rfl; FY.kept h hk) ?_
                      refine AllSteps.cons (Step.assign _ rfl rfl fun a w' hl => let ⟨_, _, _, h⟩ := hl.dep 18 128 rfl rfl; h) ?_
                      exact AllSteps.nil
                    · intro fv w9 hk9 hf
                      obtain ⟨w10, hk10, g, h16, hgg, hs16⟩ := hf 16 rfl rfl
                      obtain ⟨_, _, h17⟩ := hf 17 rfl rfl
                      replace h16 : fv 16 = .slice (some ⟨g, 0, none⟩) 128 128 := h16
                      replace h17 : fv 17 = .bool true := h17
                      simp only [Exit.then, fill, dsts, List.filterMap_cons, List.filterMap_nil, List.foldl_cons, List.foldl_nil, Act.put, h16, h17, List.setIfInBounds_toArray, List.set_cons_succ, List.set_cons_zero]
                      have HSG := Lib.hid (hs16.on (Nat.le_refl _) hk10)
                      replace HWS := Lib.hid (HWS.out.on hk9)
                      replace HLL := Lib.hid (HLL.out.on (Nat.le_refl _) hk9)
                      have hcX9 := (Below.cell hk9 (p := ⟨bl, ol + j, none⟩) hblw).trans HCX.out
                      have HGB9 : Hid (g ≠ b8 ∧ (Value.slice A n c).ownBlock ≠ some g) := Lib.hid (by
                        have := HOB.out
                        have h1 := HB8.out
                        have h2 := HGB2.out
                        refine ⟨by omega, fun e => ?_⟩
                        have h3 := HOB.out g e
                        omega)
                      clear hf h16 h17 hs16 hk9 hk10 hgg
                      go_wp2_with ((with_reducible show wpList _ _ _ (⟨none, Op.store 36 (.tmp 141) _, _, _, _, _⟩ :: _) _ _); refine wpList_store_sl rfl _ _ rfl HWS.out.blk X (by omega) (L := fillL O D (128 * X) n at') (fillL_len _ _ _ _ _).symm rfl rfl HSG.out (fun ad e _ => by injection e with e; subst e; exact ⟨HGB9.out.2, HGB9.out.1⟩) ?_; intro w14 hbk14 hon14)
                      have HWN : Hid (WS w w14 b8 A n c C (flB B D n at' f (j + 1))) := Lib.hid (by
                        rw [fl_succ]
                        refine ⟨own_other HWS.out.own hon14 HWS.out.blk.own8, ?_, hon14.below HWS.out.bel h08⟩
                        rw [← HXE.out, ← HOE.out]
                        exact hbk14)
                      have HLN := Lib.hid (sl_block HLL.out hon14.size (fun ad e hm => hon14.block _ (HLB.out ad e hm)))
                      clear hbk14 hon14
                      go_wp2_with fail
                      go_roundw
                      case rel => exact ⟨j + 1, by omega, by go_num, HWN.out, HLN.out⟩
                      case measure => simp [intOf]; omega
                  · have hgej : (m : Int) ≤ (j : Int) := by omega
                    obtain rfl : m = j := by omega
                    have HWM := Lib.hid HWS.out
                    clear HLL HLB HIN
                    go_wp2_with fail
                    refine (S1.out _).mono ?_
                    rintro e w' ⟨rfl, rfl⟩
                    go_wp2_with fail
                    go_loopw [7] (fun cv wr => ∃ (A : Option Addr) (q c : Nat), cv = .slice A q c ∧ n ≤ q ∧ q ≤ n' ∧ WS w wr b8 A q c (C ++ zer (q - n)) (flB B D n at' f m)) (fun cv _ => n' - lenV cv)
                    case atStart => exact ⟨A, n, c, rfl, Nat.le_refl _, hn'1, by rw [Nat.sub_self]; show WS w _ b8 A n c (C ++ []) _; rw [List.append_nil]; exact HWM.out⟩
                    case round =>
                      obtain ⟨A2, q, c2, rfl, hq1, hq2, hws⟩ := hrel
                      replace HWS := Lib.hid hws
                      have hqc := hws.room.2
                      clear hws
                      by_cases hltq : q < n'
                      · have hltqI : (q : Int) < (n' : Int) := by omega
                        have HZQ : Hid ((C ++ zer (q - n)).map bv ++ [.int .u8 0] = (C ++ zer (q + 1 - n)).map bv) := Lib.hid (by
                          rw [show q + 1 - n = (q - n) + 1 by omega]
                          unfold zer
                          rw [List.replicate_succ', ← List.append_assoc, List.map_append (l₂ := [(0 : UInt8)])]
                          rfl)
                        have hBw := HWS.out.bel.size
                        go_wp2_with (at_builtin; refine wpList_append_mine rfl (.tmp 157) (.tmp 158) _ _ rfl w.heap.size 5 i0 (.int .u8 0) 1 1 hz1 hz2 rfl (by decide) _ _ _ rfl (Mine.alloc (.inr HWS.out.own) _) _ 1 [.int .u8 0] rfl (Gives.elem Try.underlying36 hi0 hz0 hz1 _ rfl) (by simp only [maxLen]; omega) (by omega) (by simp; omega) ?_; intro A9 c9 w9 hm9 hg9 hb9 hat9 hown9; have ho9 := hown9 (.inl (by decide)); rw [HZQ.out] at ho9; have HWN : Hid (WS w w9 b8 A9 (q + 1) c9 (C ++ zer (q + 1 - n)) (flB B D n at' f m)) := Lib.hid ⟨ho9, (HWS.out.blk.on ((Below.refl _ _).alloc (Nat.le_refl _) _)).grown hg9 hat9, (HWS.out.bel.alloc hBw _).trans hb9⟩; clear ho9 hm9 hg9 hb9 hat9 hown9)
                        go_roundw
                        case rel => exact ⟨A9, q + 1, c9, rfl, by omega, by omega, HWN.out⟩
                        case measure => simp [lenV]; omega
                      · have hgeq : (n' : Int) ≤ (q : Int) := by omega
                        obtain rfl : n' = q := by omega
                        obtain ⟨p, hp⟩ : ∃ p : Nat, p = min at' n' := ⟨_, rfl⟩
                        have hpI : (if n' < at' then (n' : Int) else (at' : Int)) = (p : Int) := by split <;> omega
                        have hpn : p ≤ n' := by omega
                        have hlq := HWS.out.room.1
                        have HPE := Lib.hid hp
                        have hfit : D = [] ∨ p + D.length ≤ (C ++ zer (n' - n)).length := by
                          have := HDN.out
                          rcases HDF.out with h | h
                          · exact .inl h
                          · exact .inr (by omega)
                        have HFIT := Lib.hid hfit
                        have HLQ := Lib.hid hlq
                        have HSDR := Lib.hid (HSD.out.on (Nat.le_refl _) HWS.out.bel)
                        rw [HDN.out] at HSDR
                        have hnn : ((n' : Int) != (n' : Int)) = false := by simp
                        clear hp hfit hlq
                        go_wp2_with (first
                          | ((with_reducible show wpList _ _ _ (⟨some 165, _, _, _, _, _⟩ :: _) _ _); refine wpList_slice_tail rfl _ _ rfl rfl HWS.out.own p (by show Value.int .i64 _ = _; congr 1) hpn hqc ?_; intro A' hA')
                          | ((with_reducible show wpList _ _ _ (⟨some 167, _, _, _, _, _⟩ :: _) _ _); refine wpList_copy_mid rfl _ _ rfl HWS.out.own HLQ.out rfl hA' HFIT.out HSDR.out rfl (by rw [← HDN.out]; rfl) ?_; intro w17 v17 hown17 hor17))
                        have HWC : Hid (WS w w17 b8 A2 n' c2 (newC C at' D n') (flB B D n at' f m)) := Lib.hid (by
                          have e : wrL (C ++ zer (n' - n)) p D = newC C at' D n' := by unfold newC; rw [HPE.out, ← HNC.out]
                          rw [e] at hown17
                          refine ⟨hown17, ?_, ?_⟩
                          · rcases hor17 with rfl | ⟨g, hg, hon⟩
                            · exact HWS.out.blk
                            · exact HWS.out.blk.only (by rw [hg]; rfl) hon
                          · rcases hor17 with rfl | ⟨g, hg, hon⟩
                            · exact HWS.out.bel
                            · exact hon.below HWS.out.bel (own_in HWS.out.own g (by rw [hg]; rfl)).1)
                        have HVAL : Hid (∀ k : Nat, k < n' → (flB B D n at' f m (k / 128)).getD (k % 128) 0 = (newC C at' D n').getD k 0) := Lib.hid fun k hk => good_at HSTEP.out (by rw [HNL.out]; exact hk) (by rw [HNL.out]; omega)
                        clear hown17 hor17 HWM HSDR HFIT HLQ
                        go_loop [20] (fun kv => ∃ k : Nat, k ≤ n' ∧ kv = .int .i64 (k : Int)) (fun kv => n' - (intOf kv).toNat)
                        case atStart => exact ⟨0, by omega, rfl⟩
                        case round =>
                          obtain ⟨k, hk, rfl⟩ := hrel
                          by_cases hltk : k < n'
                          · have hltkI : (k : Int) < (n' : Int) := by omega
                            have hk0 : (0 : Int) ≤ (k : Int) := by omega
                            obtain ⟨kq, hkq⟩ : ∃ kq, kq = k / 128 := ⟨_, rfl⟩
                            obtain ⟨kr, hkr⟩ : ∃ kr, kr = k % 128 := ⟨_, rfl⟩
                            have hkqI : (k : Int) / 128 = (kq : Int) := by omega
                            have hkrI : (k : Int) % 128 = (kr : Int) := by omega
                            have hq32 : (kq : Int) < 32 := by omega
                            have hq0 : (0 : Int) ≤ (kq : Int) := by omega
                            have hr128 : (kr : Int) < 128 := by omega
                            have hr0 : (0 : Int) ≤ (kr : Int) := by omega
                            obtain ⟨x, hx⟩ : ∃ x : UInt8, x = (newC C at' D n').getD k 0 := ⟨_, rfl⟩
                            have hv := HVAL.out k hltk
                            rw [← hx, ← hkq, ← hkr] at hv
                            obtain ⟨Ab, cb, hcb, hsb, _⟩ := HWC.out.blk.cell kq (by omega)
                            have hbl := fl_len HGD.out.1 D n at' f m kq
                            obtain ⟨bc, oc, rfl, hbc, hcc⟩ := HWC.out.sl.at (by omega) (by decide)
                            have hck := hcc k (bv x) (by
                              have hl := HNL.out
                              rw [bv_at _ k (by omega), hx, List.getD_eq_getElem?_getD, List.getElem?_eq_getElem (by omega)]
                              rfl)
                            unfold bv at hck
                            have hxx : ((x.toNat : Int) != (x.toNat : Int)) = false := by simp
                            rcases hbl with hbl | hbl
                            · rw [hbl] at hcb
                              rw [List.eq_nil_of_length_eq_zero hbl] at hv
                              have hx0 : (x.toNat : Int) = 0 := by rw [← hv]; rfl
                              rw [hx0] at hck
                              have HCBB := Lib.hid hcb
                              clear hv hx hsb hcb hcc hxx hx0 hkq hkr hbl
                              go_wp2_with ((with_reducible show wpList _ _ _ (⟨some 180, _, _, _, _, _⟩ :: _) _ _); refine wpList_load_sl rfl _ rfl HCBB.out rfl ?_)
                              go_round
                              case rel => exact ⟨k + 1, by omega, by go_num⟩
                              case measure => simp [intOf]; omega
                            · obtain ⟨L, hL⟩ : ∃ L, L = flB B D n at' f m kq := ⟨_, rfl⟩
                              rw [← hL] at hv hsb hbl hcb
                              rw [hbl] at hcb hsb
                              obtain ⟨bb, ob, rfl, hbb, hcc2⟩ := hsb.at (by omega) (by decide)
                              have hcr := hcc2 kr (bv x) (by rw [bv_at L kr (by omega), ← hv, List.getD_eq_getElem?_getD, List.getElem?_eq_getElem (by omega)]; rfl)
                              unfold bv at hcr
                              have HCBB := Lib.hid hcb
                              clear hv hx hsb hcb hcc hcc2 hkq hkr hbl hL
                              go_wp2_with (first
                                | ((with_reducible show wpList _ _ _ (⟨some 180, _, _, _, _, _⟩ :: _) _ _); refine wpList_load_sl rfl _ rfl HCBB.out rfl ?_)
                                | ((with_reducible show wpList _ _ _ (⟨some 186, _, _, _, _, _⟩ :: _) _ _); refine wpList_load_sl rfl _ rfl HCBB.out rfl ?_))
                              go_round
                              case rel => exact ⟨k + 1, by omega, by go_num⟩
                              case measure => simp [intOf]; omega
                          · have hgek : (n' : Int) ≤ (k : Int) := by omega
                            go_wp2_with fail
                            go_roundw
                            case rel => exact ⟨i + 1, newC C at' D n', flB B D n at' f m, A2, n', c2, by omega, by go_num, rfl, hn'2, HSTEP.out, HWC.out⟩
                            case measure => simp [intOf]; omega
            · have hl3I : (8 : Int) ≤ (i : Int) := by omega
              go_wp2_with (go_at_call 16; refine (awake_any _).mono ?_; rintro e w12 ⟨rfl, hb12⟩)
              go_ret
              exact ⟨rfl, HWS.out.bel.trans (hb12.mono HWS.out.bel.size)⟩
          · have hl2I : (rows.length : Int) ≤ (i : Int) := by omega
            go_wp2_with (go_at_call 16; refine (awake_any _).mono ?_; rintro e w12 ⟨rfl, hb12⟩)
            go_ret
            exact ⟨rfl, HWS.out.bel.trans (hb12.mono HWS.out.bel.size)⟩
        · have hl1I : (ats.length : Int) ≤ (i : Int) := by omega
          go_wp2_with (go_at_call 16; refine (awake_any _).mono ?_; rintro e w12 ⟨rfl, hb12⟩)
          go_ret
          exact ⟨rfl, HWS.out.bel.trans (hb12.mono HWS.out.bel.size)⟩
end Go.Proofs.Ytndfkpajojbfkaa.Ck

