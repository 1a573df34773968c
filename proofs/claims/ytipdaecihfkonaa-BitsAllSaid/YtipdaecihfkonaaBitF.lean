/-
  bits: Free, New; the law's awake.
-/
import Derived.Test.YtipdaecihfkonaaBit2
namespace Go.Proofs.Ytipdaecihfkonaa.Bt
open Go.RowKit Wd By Sp Fl Ga
set_option linter.unusedVariables false
theorem free_any (A : Option Addr) (L : List UInt8) (c : Nat) (blocks : Int) (w : World) (hs : Sl w w.heap.size 1 A L.length (L.map bv)) (hlc : L.length ≤ c) :
    Calls Try.prog 18 #[.slice A L.length c, .int .i64 blocks] w fun e w' => e = .returned (.int .i64 ((frees L blocks (top blocks)).length : Int)) ∧ Below w.heap.size w w' := by
  have HP := Lib.hid (spans_any A L c blocks w hs hlc)
  have HM := Lib.hid (fun A c w hs => sum_any A (spans L blocks) c w (spans_sz L blocks) hs (by have := spans_len L blocks; omega))
  rw [spans_sum] at HM
  clear hs
  generalize (frees L blocks (top blocks)).length = F at *
  generalize spans L blocks = S at *
  go_enter Try.func18, Try.ntmps18
  go_wp2_with fail
  refine HP.out.mono ?_
  rintro e w1 ⟨A1, c1, rfl, hs1, hc1, hb1⟩
  have HS := Lib.hid hs1
  have HB := Lib.hid hb1
  clear hs1 hb1
  go_wp2_with fail
  refine (HM.out _ _ _ HS.out).mono ?_
  rintro e w2 ⟨rfl, rfl⟩
  go_wp2_with fail
  go_ret
  exact ⟨rfl, HB.out⟩
set_option maxHeartbeats 800000 in
theorem new_any (blocks : Int) (w : World) : Calls Try.prog 9 #[.int .i64 blocks] w (OwnR w (newL blocks)) := by
  go_enter Try.func9, Try.ntmps9
  go_wp2_with (refine wpList_make_bytes rfl _ _ rfl 128 (by decide) rfl rfl ?_; intro w1 hmk hmb hmlt)
  have HMK := Lib.hid hmk
  have HMB := Lib.hid hmb
  clear hmk hmb
  obtain ⟨g, hg⟩ : ∃ g, g = w.heap.size := ⟨_, rfl⟩
  rw [← hg] at HMK HMB ⊢
  have HG := Lib.hid hg
  clear hg hmlt
  go_wp2_with fail
  go_loopw [6] (fun i wr => ∃ k : Nat, k ≤ 1024 ∧ i = .int .i64 (k : Int) ∧ wr.ownsRow g 5 1 (.slice (some ⟨g, 0, none⟩) 128 128) 128 ((newS blocks k).map bv) ∧ Below g w wr) (fun i _ => 1024 - (intOf i).toNat)
  case atStart => exact ⟨0, by omega, rfl, HMK.out, HMB.out⟩
  case round =>
    obtain ⟨k, hk, rfl, hown, hbel⟩ := hrel
    have HO := Lib.hid hown
    have HBR := Lib.hid hbel
    clear hown hbel
    by_cases hlt : k < 1024
    · have hltI : (k : Int) < 1024 := by omega
      have hk0 : (0 : Int) ≤ (k : Int) := by omega
      have HS := Lib.hid (fun u => set_any u g g 128 k (newS blocks k) (newS_len blocks k) hlt wr HO.out)
      have HNX : Hid (newS blocks (k + 1) = setB (newS blocks k) k (newU blocks k)) := rfl
      have hcase : (k < 74) ∨ (74 ≤ k ∧ blocks ≤ (k : Int)) ∨ (74 ≤ k ∧ (k : Int) < blocks) := by omega
      rcases hcase with h1 | ⟨h1, h2⟩ | ⟨h1, h2⟩
      · have hu : newU blocks k = true := by unfold newU; simp [h1]
        have HUU := Lib.hid hu
        have h1I : (k : Int) < 74 := by omega
        clear hu
        go_wp2_with fail
        refine (HS.out true).mono ?_
        rintro e w2 ⟨rfl, ho2, hon2⟩
        have HO2 := Lib.hid ho2
        have HB2 := Lib.hid (hon2.below HBR.out (Nat.le_refl _))
        clear ho2 hon2
        go_wp2_with fail
        go_roundw
        case rel => exact ⟨k + 1, by omega, by go_num, by rw [HNX.out, HUU.out]; exact HO2.out, HB2.out⟩
        case measure => simp [intOf]; omega
      · have hu : newU blocks k = true := by unfold newU; simp [h2]
        have HUU := Lib.hid hu
        have h1I : (74 : Int) ≤ (k : Int) := by omega
        clear hu
        go_wp2_with fail
        refine (HS.out true).mono ?_
        rintro e w2 ⟨rfl, ho2, hon2⟩
        have HO2 := Lib.hid ho2
        have HB2 := Lib.hid (hon2.below HBR.out (Nat.le_refl _))
        clear ho2 hon2
        go_wp2_with fail
        go_roundw
        case rel => exact ⟨k + 1, by omega, by go_num, by rw [HNX.out, HUU.out]; exact HO2.out, HB2.out⟩
        case measure => simp [intOf]; omega
      · have hu : newU blocks k = false := by unfold newU; simp; omega
        have HUU := Lib.hid hu
        have h1I : (74 : Int) ≤ (k : Int) := by omega
        have hd : decide (blocks ≤ (k : Int)) = false := by simp; omega
        have hd2 : decide ((k : Int) < 74) = false := by simp; omega
        clear hu
        go_wp2_with fail
        refine (HS.out false).mono ?_
        rintro e w2 ⟨rfl, ho2, hon2⟩
        have HO2 := Lib.hid ho2
        have HB2 := Lib.hid (hon2.below HBR.out (Nat.le_refl _))
        clear ho2 hon2
        go_wp2_with fail
        go_roundw
        case rel => exact ⟨k + 1, by omega, by go_num, by rw [HNX.out, HUU.out]; exact HO2.out, HB2.out⟩
        case measure => simp [intOf]; omega
    · obtain rfl : k = 1024 := by omega
      have hge : (1024 : Int) ≤ ((1024 : Nat) : Int) := by omega
      go_wp2_with fail
      go_ret
      unfold OwnR
      rw [← HG.out]
      exact ⟨g, rfl, HO.out, HBR.out⟩
set_option maxRecDepth 20000 in
theorem awake_any (w : World) : Calls Try.prog 15 #[] w fun e w' => e = .returned (.bool true) ∧ Below w.heap.size w w' := by
  have HN := Lib.hid (new_any 200 w)
  have hf : (frees (newL 200) 200 (top 200)).length = 126 := by rw [new_frees 200 _ (top_le _)]; decide
  have HF := Lib.hid (fun A c w hs hc => free_any A (newL 200) c 200 w hs hc)
  rw [hf, newL_len] at HF
  have HP := Lib.hid (fun A c w hs hc => spans_any A (newL 200) c 200 w hs hc)
  unfold SpR at HP
  rw [spans_one, newL_len] at HP
  have hu : usedB (newL 200) 3 = true := new_used 200 (n := 3) (by decide)
  have HU := Lib.hid (fun A c w hs => used_any A (newL 200) c 3 w hs)
  rw [hu, newL_len] at HU
  clear hf hu
  generalize newL 200 = NL at *
  generalize spans NL 200 = SP at *
  go_enter Try.func15, Try.ntmps15
  go_wp2_with fail
  refine HN.out.mono ?_
  rintro e w1 ⟨g, rfl, ho1, hb1⟩
  have HS1 := Lib.hid (Sl.own ho1)
  have HB1 := Lib.hid hb1
  clear ho1 hb1
  go_wp2_with fail
  refine (HF.out _ _ _ HS1.out (Nat.le_refl _)).mono ?_
  rintro e w2 ⟨rfl, hb2⟩
  have HB2 := Lib.hid (HB1.out.trans (hb2.mono HB1.out.size))
  have HS2 := Lib.hid (HS1.out.on (Nat.le_refl _) hb2)
  clear hb2
  go_wp2_with fail
  refine (HP.out _ _ _ HS2.out (Nat.le_refl _)).mono ?_
  rintro e w3 ⟨A3, c3, rfl, hs3, hc3, hb3⟩
  have HB3 := Lib.hid (HB2.out.trans (hb3.mono HB2.out.size))
  have HS3 := Lib.hid (HS2.out.on (Nat.le_refl _) hb3)
  clear hb3 hs3
  go_wp2_with fail
  refine (HU.out _ _ _ HS3.out).mono ?_
  rintro e w4 ⟨rfl, rfl⟩
  go_wp2_with fail
  go_ret
  exact ⟨rfl, HB3.out⟩
end Go.Proofs.Ytipdaecihfkonaa.Bt
