/-
  'BitsNew' walked: of a new map just the blocks behind those that are kept are free.
-/
import Derived.Test.YtipdaecihfkonaaBit2
import Derived.Test.YtipdaecihfkonaaPlace
namespace Go.Proofs.Ytipdaecihfkonaa.Bt
open Go.RowKit Wd By Sp Fl Ga Pl
set_option linter.unusedVariables false

set_option maxRecDepth 20000 in
set_option maxHeartbeats 3200000 in
theorem new_walk (blocks n : Int) (w : World) (h1 : -9223372036854775808 ≤ blocks) (h2 : blocks ≤ 9223372036854775807) (h3 : -9223372036854775808 ≤ n) (h4 : n ≤ 9223372036854775807) :
    Calls Try.prog 5 #[.int .i64 blocks, .int .i64 n] w fun e w' => e = .returned (.bool true) ∧ Below w.heap.size w w' := by
  have P1 := Lib.hid (fun w => place_any n 1024 w (by omega) (by omega) h3 h4)
  obtain ⟨p0, p1⟩ := place_bd n 1024 (by omega)
  generalize placeZ n 1024 = i at *
  obtain ⟨i, rfl⟩ := Int.eq_ofNat_of_zero_le p0
  have hi : i < 1024 := by omega
  have HN := Lib.hid (new_any blocks w)
  have hF := new_frees blocks (top blocks) (top_le blocks)
  have htop : (top blocks : Int) = max 0 (min blocks 1024) := by unfold top; omega
  obtain ⟨F, hFe⟩ : ∃ F, F = (frees (newL blocks) blocks (top blocks)).length := ⟨_, rfl⟩
  rw [← hFe] at hF
  have HF := Lib.hid (fun A c w hs hc => free_any A (newL blocks) c blocks w hs hc)
  rw [← hFe, newL_len] at HF
  have hu := new_used blocks hi
  have HU := Lib.hid (fun A c w hs => used_any A (newL blocks) c (i : Int) w hs)
  rw [hu, newL_len] at HU
  have hUdef : newU blocks i = (decide (i < 74) || decide (blocks ≤ (i : Int))) := rfl
  generalize newU blocks i = U at *
  clear hu h1 h2 h3 h4 hFe
  generalize newL blocks = NL at *
  have hcase : (blocks < 0 ∧ F = 0) ∨ (0 = blocks ∧ F = 0) ∨ (1 ≤ blocks ∧ blocks ≤ 74 ∧ F = 0) ∨ (75 ≤ blocks ∧ blocks ≤ 1024 ∧ (F : Int) = blocks - 74) ∨ (1024 < blocks ∧ F = 950) := by omega
  have hicase : (i < 74 ∧ U = true) ∨ (74 ≤ i ∧ blocks ≤ (i : Int) ∧ U = true) ∨ (74 ≤ i ∧ (i : Int) < blocks ∧ U = false) := by
    rw [hUdef]
    by_cases a : i < 74
    · left; simp [a]
    · by_cases b : blocks ≤ (i : Int)
      · right; left; simp [b]; omega
      · right; right; simp [b]; omega
  clear hF htop hUdef p0 p1
  have hi0 : (0 : Int) ≤ (i : Int) := by omega
  have hi1 : (i : Int) < 1024 := by omega
  rcases hcase with ⟨b1, rfl⟩ | ⟨rfl, rfl⟩ | ⟨b1, b2, rfl⟩ | ⟨b1, b2, hFF⟩ | ⟨b1, rfl⟩ <;> rcases hicase with ⟨i1, rfl⟩ | ⟨i1, i2, rfl⟩ | ⟨i1, i2, rfl⟩
  all_goals first | (exfalso; omega) | skip
  all_goals
    first | have j1 : (i : Int) < 74 := by omega | have j1 : (74 : Int) ≤ (i : Int) := by omega
    try have e1 : decide ((i : Int) < 74) = false := by (simp; omega)
    try have e2 : decide (blocks ≤ (i : Int)) = false := by (simp; omega)
    try have e3 : ((F : Int) == blocks - 74) = true := by (simp; omega)
    try have e4 : decide ((1024 : Int) ≤ (i : Int)) = false := by (simp; omega)
    try clear hFF
    try have b3 : (0 : Int) < blocks - 74 := by omega
    try have b4 : blocks - 74 ≤ 0 := by omega
    clear hi
    go_enter Try.func5, Try.ntmps5
    go_wp2_with fail
    refine HN.out.mono ?_
    rintro e w1 ⟨g, rfl, ho1, hb1⟩
    have HS1 := Lib.hid (Sl.own ho1)
    have HB1 := Lib.hid hb1
    clear ho1 hb1
    go_wp2_with fail
    refine (P1.out _).mono ?_
    rintro e w' ⟨rfl, rfl⟩
    go_wp2_with fail
    refine (HU.out _ _ _ HS1.out).mono ?_
    rintro e w4 ⟨rfl, rfl⟩
    go_wp2_with fail
    refine (HF.out _ _ _ HS1.out (Nat.le_refl _)).mono ?_
    rintro e w2 ⟨rfl, hb2⟩
    have HB2 := Lib.hid (HB1.out.trans (hb2.mono HB1.out.size))
    clear hb2
    go_wp2_with fail
    refine (awake_any _).mono ?_
    rintro e w7 ⟨rfl, hb7⟩
    have HB7 := Lib.hid hb7
    clear hb7
    go_wp2_with fail
    go_ret
    exact ⟨rfl, HB2.out.trans (HB7.out.mono HB2.out.size)⟩
end Go.Proofs.Ytipdaecihfkonaa.Bt
