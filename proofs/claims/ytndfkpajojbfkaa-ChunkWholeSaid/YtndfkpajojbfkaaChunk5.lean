/-
  chunk: the document's Fill.
-/
import Derived.Test.YtndfkpajojbfkaaChunk4
namespace Go.Proofs.Ytndfkpajojbfkaa.Ck
open Go.RowKit Wd Is Sp Fl Ga By
set_option linter.unusedVariables false

theorem mem_run (f m : Nat) (x : Int) : x ∈ run f m ↔ (f : Int) ≤ x ∧ x < (f : Int) + (m : Int) := by
  unfold run
  simp only [List.mem_map, List.mem_range]
  constructor
  · rintro ⟨i, hi, rfl⟩; omega
  · rintro ⟨h1, h2⟩; exact ⟨(x - f).toNat, by omega, by omega⟩
theorem has_touched (a n : Nat) (x : Int) (h : a + n ≤ 4096) : hasB [strP a n] x = decide (x ∈ touched a n) := by
  unfold hasB strP touched
  rw [List.any_cons, List.any_nil, Bool.or_false]
  unfold inP
  congr 1
  apply propext
  rw [mem_run]
  by_cases hn : n = 0
  · subst hn
    rw [if_neg (by omega)]
    have : cnt a 0 = 0 := rfl
    rw [this]
    simp only
    omega
  · rw [if_pos (by omega)]
    have : cnt a n = (a + n - 1) / 128 - a / 128 + 1 := by unfold cnt; rw [if_neg hn]
    rw [this]
    simp only
    omega
theorem take_mem {L : List Int} {k : Nat} {y x : Int} (h : L[k]? = some y) : decide (x ∈ L.take (k + 1)) = (decide (x ∈ L.take k) || decide (y = x)) := by
  rw [List.take_add_one, h, ← Bool.decide_or]
  congr 1
  apply propext
  simp
  constructor
  · rintro (h | h)
    · exact .inl h
    · exact .inr h.symm
  · rintro (h | h)
    · exact .inl h
    · exact .inr h.symm
section
variable (Ao Ad : Option Addr) (old d : List UInt8) (co cd : Nat) (blk s a : Int) (w : World)
set_option maxRecDepth 20000 in
set_option maxHeartbeats 1600000 in
theorem rfill_no (ho : Sl w w.heap.size 1 Ao old.length (old.map bv)) (hd : Sl w w.heap.size 1 Ad d.length (d.map bv)) (hod : old.length ≤ 140737488355328) (hdd : d.length ≤ 140737488355328)
    (h : ¬ (May s a d.length ∧ (old.length = 0 ∨ old.length = 128) ∧ hasB [strP a d.length] blk = true)) :
    Calls Try.prog 20 #[.slice Ao old.length co, .int .i64 blk, .int .i64 s, .int .i64 a, .slice Ad d.length cd] w fun e w' => e = .returned (.tuple #[.slice none 0 0, .bool false]) ∧ Below w.heap.size w w' := by
  clear ho hd
  by_cases hol : old.length = 0 ∨ old.length = 128
  · by_cases hdl : d.length ≤ 4096
    · have hdlI : (d.length : Int) ≤ 4096 := by omega
      by_cases hm : May s a d.length
      · obtain ⟨m1, m2, m3, m4, m5, m6⟩ := id hm
        obtain ⟨a, rfl⟩ := Int.eq_ofNat_of_zero_le m3
        have hb : hasB [strP a d.length] blk = false := by
          cases hh : hasB [strP a d.length] blk
          · rfl
          · exact absurd ⟨hm, hol, hh⟩ h
        rw [has_touched a d.length blk (by omega)] at hb
        have T1 := Lib.hid (fun w => rtouched_yes hm w)
        unfold TR at T1
        obtain ⟨L, hL⟩ : ∃ L, L = touched a d.length := ⟨_, rfl⟩
        have hc33 := cnt_le a d.length (by omega)
        rw [← touched_len, ← hL] at hc33
        rw [← hL] at T1 hb
        have HB0 := Lib.hid hb
        clear h hm hL hb m1 m2 m3 m4 m5 m6
        rcases hol with hl | hl
        all_goals
          rw [hl]
          go_enter Try.func20, Try.ntmps20
          go_wp2_with fail
          refine (T1.out _).mono ?_
          rintro e w1 ⟨A1, c1, rfl, hs1, hc1, hb1⟩
          have HS1 := Lib.hid hs1
          have HB1 := Lib.hid hb1
          clear hs1 hb1
          go_wp2_with fail
          go_loop [14, 15] (fun inn i => ∃ k : Nat, k ≤ L.length ∧ i = .int .i64 (k : Int) ∧ inn = .bool false ∧ decide (blk ∈ L.take k) = false) (fun _ i => L.length - (intOf i).toNat)
          case atStart => exact ⟨0, by omega, rfl, rfl, by simp⟩
          case round =>
            obtain ⟨k, hk, rfl, rfl, hnin⟩ := hrel
            have HN := Lib.hid hnin
            clear hnin
            by_cases hlt : k < L.length
            · have hltI : (k : Int) < (L.length : Int) := by omega
              have hk0 : (0 : Int) ≤ (k : Int) := by omega
              obtain ⟨y, hy⟩ : ∃ y, L[k]? = some y := ⟨_, List.getElem?_eq_getElem hlt⟩
              obtain ⟨b, off, rfl, hbb, hcell⟩ := HS1.out.at (by omega) (by decide)
              have hc1 := hcell k (.int .i64 y) (by rw [List.getElem?_map, hy]; rfl)
              have hne : ¬ y = blk := by
                intro e
                have hm : blk ∈ L := by rw [← e]; exact List.mem_of_getElem? hy
                have := HB0.out
                rw [decide_eq_false_iff_not] at this
                exact this hm
              have hyb : (y == blk) = false := by simpa using hne
              have HNX : Hid (decide (blk ∈ L.take (k + 1)) = false) := by
                show _ = _
                rw [take_mem hy, HN.out]
                simpa using hne
              clear hcell hbb hy hne
              go_wp2_with fail
              go_round
              case rel => exact ⟨k + 1, by omega, by go_num, rfl, HNX.out⟩
              case measure => simp [intOf]; omega
            · have hge : (L.length : Int) ≤ (k : Int) := by omega
              go_wp2_with fail
              go_ret2
              exact ⟨rfl, HB1.out⟩
      · have T1 := Lib.hid (fun w => rtouched_no hm w)
        clear h hm
        rcases hol with hl | hl
        all_goals
          rw [hl]
          go_enter Try.func20, Try.ntmps20
          go_wp2_with fail
          refine (T1.out _).mono ?_
          rintro e w1 ⟨rfl, rfl⟩
          go_wp2_with fail
          go_loop [14, 15] (fun inn i => i = .int .i64 0 ∧ inn = .bool false) (fun _ _ => 0)
          case atStart => exact ⟨rfl, rfl⟩
          case round =>
            obtain ⟨rfl, rfl⟩ := hrel
            go_wp2_with fail
            go_ret2
            exact ⟨rfl, Below.refl _ _⟩
    · have hdlI : (4096 : Int) < (d.length : Int) := by omega
      clear h
      rcases hol with hl | hl
      all_goals
        rw [hl]
        go_enter Try.func20, Try.ntmps20
        go_wp2_with fail
        go_ret2
        exact ⟨rfl, Below.refl _ _⟩
  · have h0 : ((old.length : Int) != 0) = true := by rw [bne_iff_ne]; omega
    have h8 : ((old.length : Int) != 128) = true := by rw [bne_iff_ne]; omega
    clear h hol
    go_enter Try.func20, Try.ntmps20
    go_wp2_with fail
    go_ret2
    exact ⟨rfl, Below.refl _ _⟩
set_option maxRecDepth 20000 in
set_option maxHeartbeats 3200000 in
theorem rfill_yes (ho : Sl w w.heap.size 1 Ao old.length (old.map bv)) (hd : Sl w w.heap.size 1 Ad d.length (d.map bv)) (hm : May s a d.length) (hol : old.length = 0 ∨ old.length = 128) (hb : hasB [strP a d.length] blk = true) :
    Calls Try.prog 20 #[.slice Ao old.length co, .int .i64 blk, .int .i64 s, .int .i64 a, .slice Ad d.length cd] w (FillR w (fillL old d (blk * 128).toNat s.toNat a.toNat)) := by
  have hin := in_stretch d blk a hb
  obtain ⟨m1, m2, m3, m4, m5, m6⟩ := id hm
  obtain ⟨blk, rfl⟩ := Int.eq_ofNat_of_zero_le (show 0 ≤ blk by omega)
  obtain ⟨s, rfl⟩ := Int.eq_ofNat_of_zero_le m1
  obtain ⟨a, rfl⟩ := Int.eq_ofNat_of_zero_le m3
  rw [has_touched a d.length _ (by omega)] at hb
  have T1 := Lib.hid (fun w => rtouched_yes hm w)
  unfold TR at T1
  obtain ⟨L, hL⟩ : ∃ L, L = touched a d.length := ⟨_, rfl⟩
  have hc33 := cnt_le a d.length (by omega)
  rw [← touched_len, ← hL] at hc33
  rw [← hL] at T1 hb
  have HB0 := Lib.hid hb
  obtain ⟨P, hP⟩ : ∃ P, P = blk * 128 := ⟨_, rfl⟩
  have hPI : (blk : Int) * 128 = (P : Int) := by omega
  rw [hPI]
  simp only [Int.toNat_natCast]
  have hblk : blk ≤ 31 := by omega
  have hP4 : (P : Int) ≤ 4096 := by omega
  have hdl : (d.length : Int) ≤ 4096 := by omega
  have hs4 : (s : Int) ≤ 4096 := m2
  have ha4 : (a : Int) ≤ 4096 := m4
  have hP0 : (0 : Int) ≤ (P : Int) := by omega
  have ha0 : (0 : Int) ≤ (a : Int) := by omega
  have hd0 : (0 : Int) ≤ (d.length : Int) := by omega
  have hbI : (blk : Int) ≤ 31 := by omega
  have hbI0 : (0 : Int) ≤ (blk : Int) := by omega
  have HO0 := Lib.hid ho
  have HD0 := Lib.hid hd
  clear hin hb ho hd m1 m2 m3 m4 m5 m6 hP hblk hm hL
  obtain ⟨ol, hole⟩ : ∃ ol : Nat, ol = old.length := ⟨_, rfl⟩
  rw [← hole] at hol ⊢
  have HOE := Lib.hid hole
  clear hole
  rcases hol with rfl | rfl
  all_goals
    go_enter Try.func20, Try.ntmps20
    go_wp2_with fail
    refine (T1.out _).mono ?_
    rintro e w1 ⟨A1, c1, rfl, hs1, hc1, hb1⟩
    have HS1 := Lib.hid hs1
    have HB := Lib.hid hb1
    have hz1 := hb1.size
    clear hs1 hb1
    go_wp2_with fail
    go_loop [14, 15] (fun inn i => ∃ k : Nat, k ≤ L.length ∧ i = .int .i64 (k : Int) ∧ inn = .bool (decide ((blk : Int) ∈ L.take k))) (fun _ i => L.length - (intOf i).toNat)
    case atStart => exact ⟨0, by omega, rfl, by simp⟩
    case round =>
      obtain ⟨k, hk, rfl, rfl⟩ := hrel
      by_cases hlt : k < L.length
      · have hltI : (k : Int) < (L.length : Int) := by omega
        have hk0 : (0 : Int) ≤ (k : Int) := by omega
        obtain ⟨y, hy⟩ : ∃ y, L[k]? = some y := ⟨_, List.getElem?_eq_getElem hlt⟩
        obtain ⟨b, off, rfl, hbb, hcell⟩ := HS1.out.at (by omega) (by decide)
        have hcc := hcell k (.int .i64 y) (by rw [List.getElem?_map, hy]; rfl)
        have HNX := Lib.hid (take_mem (x := (blk : Int)) hy)
        generalize decide ((blk : Int) ∈ L.take k) = B at *
        clear hcell hbb hy
        cases B
        · cases hyb : (y == (blk : Int))
          all_goals
            have HYB := Lib.hid hyb
            go_wp2_with fail
            go_round
            case rel => exact ⟨k + 1, by omega, by go_num, by rw [HNX.out, Bool.false_or]; congr 1; rw [← HYB.out]; first | rfl | (cases hh : decide (y = (blk : Int)) <;> simp_all)⟩
            case measure => simp [intOf]; omega
        · go_wp2_with fail
          go_round
          case rel => exact ⟨k + 1, by omega, by go_num, by rw [HNX.out, Bool.true_or]⟩
          case measure => simp [intOf]; omega
      · have hge : (L.length : Int) ≤ (k : Int) := by omega
        have hin : decide ((blk : Int) ∈ L.take k) = true := by rw [List.take_of_length_le (by omega)]; exact HB0.out
        rw [hin]
        clear hin
        go_wp2_with (refine wpList_make_bytes rfl _ _ rfl 128 (by decide) rfl rfl ?_; intro w2 hmk hmb hmlt)
        have HMK := Lib.hid hmk
        have HMB := Lib.hid (HB.out.trans (hmb.mono hz1))
        have hgb : w.heap.size ≤ w1.heap.size := hz1
        clear hmk hmb
        generalize w1.heap.size = g at *
        go_wp2_with fail
        go_loopw [17] (fun i wr => ∃ k : Nat, k ≤ 128 ∧ i = .int .i64 (k : Int) ∧ wr.ownsRow w.heap.size 5 1 (.slice (some ⟨g, 0, none⟩) 128 128) 128 ((cur (fillB old d P s a) k).map bv) ∧ Below w.heap.size w wr) (fun i _ => 128 - (intOf i).toNat)
        case atStart =>
          refine ⟨0, by omega, rfl, ?_, HMB.out⟩
          rw [cur_zero]
          exact own_lower HMK.out hgb
        case round =>
          obtain ⟨k, hk, rfl, hown, hbel⟩ := hrel
          have HO := Lib.hid hown
          have HBR := Lib.hid hbel
          clear hown hbel
          by_cases hlt : k < 128
          · have hltI : (k : Int) < 128 := by omega
            have hk0 : (0 : Int) ≤ (k : Int) := by omega
            by_cases h3 : P + k < s ∧ 0 < old.length
            · first
                | (exfalso; have := HOE.out; omega)
                | skip
              all_goals
                have h3I : (P : Int) + (k : Int) < (s : Int) := by omega
                obtain ⟨y, hy⟩ : ∃ y, y = old.getD k 0 := ⟨_, rfl⟩
                have hkl : k < old.length := by have := HOE.out; omega
                obtain ⟨b, off, rfl, hbb, hcell⟩ := (HO0.out.below HBR.out).at (by omega) (by decide)
                have hc1 : wr.cell? ⟨b, off + k, none⟩ = some (.int .u8 (y.toNat : Int)) := hcell k _ (by rw [bv_at old k hkl, hy, List.getD_eq_getElem?_getD, List.getElem?_eq_getElem hkl]; rfl)
                have hbs : b < w.heap.size := hbb
                have hyF : ¬ (a ≤ P + k ∧ P + k < a + d.length) → y = fillB old d P s a k := by
                  intro hh
                  unfold fillB
                  rw [if_neg hh, if_pos h3, hy]
                have HYF := Lib.hid hyF
                clear hcell hbb hy hkl hyF
                by_cases h1 : a ≤ P + k
                · have h1I : (a : Int) ≤ (P : Int) + (k : Int) := by omega
                  by_cases h2 : P + k < a + d.length
                  · have h2I : (P : Int) + (k : Int) < (a : Int) + (d.length : Int) := by omega
                    obtain ⟨j, hj⟩ : ∃ j : Nat, j = P + k - a := ⟨_, rfl⟩
                    have hjI : (P : Int) + (k : Int) - (a : Int) = (j : Int) := by omega
                    have hjl : j < d.length := by omega
                    have hjlI : (j : Int) < (d.length : Int) := by omega
                    have hj0 : (0 : Int) ≤ (j : Int) := by omega
                    obtain ⟨z, hz⟩ : ∃ z, z = d.getD j 0 := ⟨_, rfl⟩
                    have HV : Hid (z = fillB old d P s a k) := by
                      show _ = _
                      unfold fillB
                      rw [if_pos ⟨h1, h2⟩, ← hj, hz]
                    obtain ⟨b2, off2, rfl, hbb2, hcell2⟩ := (HD0.out.below HBR.out).at (by omega) (by decide)
                    have HC2 : Hid (∀ w2, Only g wr w2 → w2.cell? ⟨b2, off2 + j, none⟩ = some (.int .u8 (z.toNat : Int))) := Lib.hid fun w2 hon => (hon.cell (p := ⟨b2, off2 + j, none⟩) (Nat.ne_of_lt (Nat.lt_of_lt_of_le hbb2 (own_ge HO.out)))).trans (hcell2 j _ (by rw [bv_at d j hjl, hz, List.getD_eq_getElem?_getD, List.getElem?_eq_getElem hjl]; rfl))
                    clear hcell2 hbb2 hj hz h1 h2 h3 HYF
                    go_wp2_with (first
                      | ((with_reducible show wpList _ _ _ (⟨none, Op.store 5 (.tmp 84) _, _, _, _, _⟩ :: _) _ _); refine wpList_store_byte rfl _ _ rfl HO.out k (by omega) y rfl rfl ?_; intro w2 ho2 hon2; have hc2 := HC2.out w2 hon2)
                      | ((with_reducible show wpList _ _ _ (⟨none, Op.store 5 (.tmp 104) _, _, _, _, _⟩ :: _) _ _); refine wpList_store_byte rfl _ _ rfl ho2 k (by omega) z rfl rfl ?_; intro w3 ho3 hon3))
                    go_wp2_with fail
                    go_roundw
                    case rel => exact ⟨k + 1, by omega, by go_num, by rw [← cur_set _ _ _ HV.out]; rw [List.set_set] at ho3; exact ho3, hon3.below (hon2.below HBR.out (own_ge HO.out)) (own_ge HO.out)⟩
                    case measure => simp [intOf]; omega
                  · have h2I : (a : Int) + (d.length : Int) ≤ (P : Int) + (k : Int) := by omega
                    have HV : Hid (y = fillB old d P s a k) := Lib.hid (HYF.out (by omega))
                    clear h3 HYF h1 h2
                    go_wp2_with ((with_reducible show wpList _ _ _ (⟨none, Op.store 5 (.tmp 84) _, _, _, _, _⟩ :: _) _ _); refine wpList_store_byte rfl _ _ rfl HO.out k (by omega) y rfl rfl ?_; intro w2 ho2 hon2)
                    go_wp2_with fail
                    go_roundw
                    case rel => exact ⟨k + 1, by omega, by go_num, by rw [← cur_set _ _ _ HV.out]; exact ho2, hon2.below HBR.out (own_ge HO.out)⟩
                    case measure => simp [intOf]; omega
                · have h1I : (P : Int) + (k : Int) < (a : Int) := by omega
                  have HV : Hid (y = fillB old d P s a k) := Lib.hid (HYF.out (by omega))
                  clear h3 HYF h1
                  go_wp2_with ((with_reducible show wpList _ _ _ (⟨none, Op.store 5 (.tmp 84) _, _, _, _, _⟩ :: _) _ _); refine wpList_store_byte rfl _ _ rfl HO.out k (by omega) y rfl rfl ?_; intro w2 ho2 hon2)
                  go_wp2_with fail
                  go_roundw
                  case rel => exact ⟨k + 1, by omega, by go_num, by rw [← cur_set _ _ _ HV.out]; exact ho2, hon2.below HBR.out (own_ge HO.out)⟩
                  case measure => simp [intOf]; omega
            · by_cases h4 : P + k < s
              · have h4I : (P : Int) + (k : Int) < (s : Int) := by omega
                first
                  | (exfalso; have := HOE.out; omega)
                  | skip
                all_goals
                  by_cases h1 : a ≤ P + k
                  · have h1I : (a : Int) ≤ (P : Int) + (k : Int) := by omega
                    by_cases h2 : P + k < a + d.length
                    · have h2I : (P : Int) + (k : Int) < (a : Int) + (d.length : Int) := by omega
                      obtain ⟨j, hj⟩ : ∃ j : Nat, j = P + k - a := ⟨_, rfl⟩
                      have hjI : (P : Int) + (k : Int) - (a : Int) = (j : Int) := by omega
                      have hjl : j < d.length := by omega
                      have hjlI : (j : Int) < (d.length : Int) := by omega
                      have hj0 : (0 : Int) ≤ (j : Int) := by omega
                      obtain ⟨z, hz⟩ : ∃ z, z = d.getD j 0 := ⟨_, rfl⟩
                      have HV : Hid (z = fillB old d P s a k) := by
                        show _ = _
                        unfold fillB
                        rw [if_pos ⟨h1, h2⟩, ← hj, hz]
                      obtain ⟨b2, off2, rfl, hbb2, hcell2⟩ := (HD0.out.below HBR.out).at (by omega) (by decide)
                      have hc2 : wr.cell? ⟨b2, off2 + j, none⟩ = some (.int .u8 (z.toNat : Int)) := hcell2 j _ (by rw [bv_at d j hjl, hz, List.getD_eq_getElem?_getD, List.getElem?_eq_getElem hjl]; rfl)
                      clear hcell2 hbb2 hj hz h1 h2 h3 h4
                      go_wp2_with ((with_reducible show wpList _ _ _ (⟨none, Op.store 5 (.tmp 104) _, _, _, _, _⟩ :: _) _ _); refine wpList_store_byte rfl _ _ rfl HO.out k (by omega) z rfl rfl ?_; intro w3 ho3 hon3)
                      go_wp2_with fail
                      go_roundw
                      case rel => exact ⟨k + 1, by omega, by go_num, by rw [← cur_set _ _ _ HV.out]; exact ho3, hon3.below HBR.out (own_ge HO.out)⟩
                      case measure => simp [intOf]; omega
                    · have h2I : (a : Int) + (d.length : Int) ≤ (P : Int) + (k : Int) := by omega
                      have HV : Hid (fillB old d P s a k = 0) := by
                        show _ = _
                        unfold fillB
                        rw [if_neg (by omega), if_neg h3]
                      clear h1 h2 h3 h4
                      go_wp2_with fail
                      go_roundw
                      case rel => exact ⟨k + 1, by omega, by go_num, by rw [← cur_same _ _ HV.out]; exact HO.out, HBR.out⟩
                      case measure => simp [intOf]; omega
                  · have h1I : (P : Int) + (k : Int) < (a : Int) := by omega
                    have HV : Hid (fillB old d P s a k = 0) := by
                      show _ = _
                      unfold fillB
                      rw [if_neg (by omega), if_neg h3]
                    clear h1 h3 h4
                    go_wp2_with fail
                    go_roundw
                    case rel => exact ⟨k + 1, by omega, by go_num, by rw [← cur_same _ _ HV.out]; exact HO.out, HBR.out⟩
                    case measure => simp [intOf]; omega
              · have h4I : (s : Int) ≤ (P : Int) + (k : Int) := by omega
                by_cases h1 : a ≤ P + k
                · have h1I : (a : Int) ≤ (P : Int) + (k : Int) := by omega
                  by_cases h2 : P + k < a + d.length
                  · have h2I : (P : Int) + (k : Int) < (a : Int) + (d.length : Int) := by omega
                    obtain ⟨j, hj⟩ : ∃ j : Nat, j = P + k - a := ⟨_, rfl⟩
                    have hjI : (P : Int) + (k : Int) - (a : Int) = (j : Int) := by omega
                    have hjl : j < d.length := by omega
                    have hjlI : (j : Int) < (d.length : Int) := by omega
                    have hj0 : (0 : Int) ≤ (j : Int) := by omega
                    obtain ⟨z, hz⟩ : ∃ z, z = d.getD j 0 := ⟨_, rfl⟩
                    have HV : Hid (z = fillB old d P s a k) := by
                      show _ = _
                      unfold fillB
                      rw [if_pos ⟨h1, h2⟩, ← hj, hz]
                    obtain ⟨b2, off2, rfl, hbb2, hcell2⟩ := (HD0.out.below HBR.out).at (by omega) (by decide)
                    have hc2 : wr.cell? ⟨b2, off2 + j, none⟩ = some (.int .u8 (z.toNat : Int)) := hcell2 j _ (by rw [bv_at d j hjl, hz, List.getD_eq_getElem?_getD, List.getElem?_eq_getElem hjl]; rfl)
                    clear hcell2 hbb2 hj hz h1 h2 h3 h4
                    go_wp2_with ((with_reducible show wpList _ _ _ (⟨none, Op.store 5 (.tmp 104) _, _, _, _, _⟩ :: _) _ _); refine wpList_store_byte rfl _ _ rfl HO.out k (by omega) z rfl rfl ?_; intro w3 ho3 hon3)
                    go_wp2_with fail
                    go_roundw
                    case rel => exact ⟨k + 1, by omega, by go_num, by rw [← cur_set _ _ _ HV.out]; exact ho3, hon3.below HBR.out (own_ge HO.out)⟩
                    case measure => simp [intOf]; omega
                  · have h2I : (a : Int) + (d.length : Int) ≤ (P : Int) + (k : Int) := by omega
                    have HV : Hid (fillB old d P s a k = 0) := by
                      show _ = _
                      unfold fillB
                      rw [if_neg (by omega), if_neg h3]
                    clear h1 h2 h3 h4
                    go_wp2_with fail
                    go_roundw
                    case rel => exact ⟨k + 1, by omega, by go_num, by rw [← cur_same _ _ HV.out]; exact HO.out, HBR.out⟩
                    case measure => simp [intOf]; omega
                · have h1I : (P : Int) + (k : Int) < (a : Int) := by omega
                  have HV : Hid (fillB old d P s a k = 0) := by
                    show _ = _
                    unfold fillB
                    rw [if_neg (by omega), if_neg h3]
                  clear h1 h3 h4
                  go_wp2_with fail
                  go_roundw
                  case rel => exact ⟨k + 1, by omega, by go_num, by rw [← cur_same _ _ HV.out]; exact HO.out, HBR.out⟩
                  case measure => simp [intOf]; omega
          · obtain rfl : k = 128 := by omega
            have hge : (128 : Int) ≤ ((128 : Nat) : Int) := by omega
            go_wp2_with fail
            go_ret2
            exact ⟨g, rfl, HO.out, HBR.out⟩
end
end Go.Proofs.Ytndfkpajojbfkaa.Ck
