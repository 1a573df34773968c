/-
  The document's Frees and Take.
-/
import Derived.Test.YtipdaecihfkonaaBit6
namespace Go.Proofs.Ytipdaecihfkonaa.Bt
open Fl Sp Go.RowKit Wd By
set_option linter.unusedVariables false
def IntsR (w : World) (l : List Int) (e : Ending) (w' : World) : Prop :=
  ∃ A c, e = .returned (.slice A l.length c) ∧ Sl w' w'.heap.size 1 A l.length (l.map (Value.int .i64)) ∧ l.length ≤ c ∧ w'.ownsRow w.heap.size 3 1 (.slice A l.length c) l.length (l.map (Value.int .i64)) ∧ Below w.heap.size w w'
set_option maxHeartbeats 800000 in
theorem rfrees_any (A : Option Addr) (L : List UInt8) (c : Nat) (blocks : Int) (w : World) (hs : Sl w w.heap.size 1 A L.length (L.map bv)) (hk : L.length ≤ 140737488355328) :
    Calls Try.prog 19 #[.slice A L.length c, .int .i64 blocks] w (IntsR w (frees L blocks (top blocks))) := by
  obtain ⟨i0, hi0, hz0, hz1, hz2⟩ := info_parts infoI
  have HM := Lib.hid (rmap_any A L c w hs hk)
  have htl := top_le blocks
  clear hs hk
  go_enter Try.func19, Try.ntmps19
  go_wp2_with fail
  refine HM.out.mono ?_
  rintro e w1 ⟨g, rfl, ho1, hb1⟩
  have HO1 := Lib.hid ho1
  have HB1 := Lib.hid hb1
  have hz1' := hb1.size
  clear ho1 hb1
  go_wp2_with fail
  go_loopw [7, 6] (fun iv lv wr => ∃ k : Nat, k ≤ top blocks ∧ iv = .int .i64 (k : Int) ∧ wr.ownsRow w1.heap.size 3 1 lv (frees L blocks k).length ((frees L blocks k).map (Value.int .i64)) ∧ Below w1.heap.size w1 wr) (fun i _ _ => top blocks - (intOf i).toNat)
  case atStart => exact ⟨0, by omega, rfl, World.ownsRow_nil _ _ _ _, Below.refl _ _⟩
  case round =>
    obtain ⟨k, hk, rfl, hown, hbel⟩ := hrel
    have HO := Lib.hid hown
    have HB := Lib.hid hbel
    have hB := hbel.size
    have hfl := frees_len L blocks k
    clear hown hbel
    by_cases hlt : k < top blocks
    · have hltI : (k : Int) < 1024 := by omega
      have hlb : (k : Int) < blocks := by unfold top at hlt; omega
      have hk0 : (0 : Int) ≤ (k : Int) := by omega
      have hk1024 : k < 1024 := by omega
      obtain ⟨hc, hfz⟩ := ownB_there (own_bel HO1.out HB.out) k hk1024
      rw [mapF_at _ hk1024] at hc
      have hfr : fr L blocks k = !usedB L (k : Int) := by unfold fr; rw [decide_eq_true hlb, Bool.true_and]
      have HX := Lib.hid (frees_succ L blocks k)
      rw [hfr] at HX
      cases hu : usedB L (k : Int)
      · rw [hu] at hc HX
        rw [Bool.not_false, if_pos rfl] at HX
        clear hfr hu hk
        go_wp2_with (at_builtin; refine wpList_append_mine rfl (.tmp 24) (.tmp 26) _ _ rfl w1.heap.size 3 i0 (.int .i64 0) 1 8 hz1 hz2 rfl (by decide) _ _ _ rfl (Mine.alloc (.inr HO.out) _) _ 1 [.int .i64 (k : Int)] rfl (Gives.elem Try.underlying22 hi0 hz0 hz1 _ rfl) (by simp only [maxLen]; omega) (by omega) (by simp; omega) ?_; intro A5 c5 w5 hm5 hg5 hb5 hat5 hown5)
        have ho5 := hown5 (.inl (by decide))
        have HO5 := Lib.hid ho5
        have HB5 := Lib.hid hb5
        clear ho5 hown5 hat5 hg5 hm5 hb5
        go_wp2_with fail
        go_roundw
        case rel => exact ⟨k + 1, by omega, by go_num, by rw [HX.out]; simpa using HO5.out, (HB.out.alloc hB _).trans HB5.out⟩
        case measure => simp [intOf]; omega
      · rw [hu] at hc HX
        rw [Bool.not_true, if_neg (by decide)] at HX
        clear hfr hu hk
        go_wp2_with fail
        go_roundw
        case rel => exact ⟨k + 1, by omega, by go_num, by rw [HX.out]; exact HO.out, HB.out⟩
        case measure => simp [intOf]; omega
    · obtain rfl : k = top blocks := by omega
      by_cases h10 : (top blocks : Int) < 1024
      · have hlb : ¬ ((top blocks : Int) < blocks) := by unfold top at *; omega
        generalize frees L blocks (top blocks) = F at *
        go_wp2_with fail
        go_ret
        obtain ⟨A7, c7, rfl, q1, q2, q3⟩ := Mine.form (.inr HO.out)
        exact ⟨A7, c7, rfl, q3, q1, HO.out.mono hz1', HB1.out.trans (Below.mono HB.out hz1')⟩
      · have h10' : (1024 : Int) ≤ (top blocks : Int) := by omega
        generalize frees L blocks (top blocks) = F at *
        go_wp2_with fail
        go_ret
        obtain ⟨A7, c7, rfl, q1, q2, q3⟩ := Mine.form (.inr HO.out)
        exact ⟨A7, c7, rfl, q3, q1, HO.out.mono hz1', HB1.out.trans (Below.mono HB.out hz1')⟩
def TakeS (w : World) (l : List Int) (ok : Bool) (e : Ending) (w' : World) : Prop :=
  ∃ A c, e = .returned (.tuple #[.slice A l.length c, .bool ok]) ∧ Sl w' w'.heap.size 1 A l.length (l.map (Value.int .i64)) ∧ l.length ≤ c ∧ Below w.heap.size w w'
theorem rtake_any (A : Option Addr) (L : List UInt8) (c : Nat) (blocks n : Int) (w : World) (hs : Sl w w.heap.size 1 A L.length (L.map bv)) (hk : L.length ≤ 140737488355328) :
    Calls Try.prog 21 #[.slice A L.length c, .int .i64 blocks, .int .i64 n] w (TakeS w (takeL L blocks n) (takeB L blocks n)) := by
  obtain ⟨i0, hi0, hz0, hz1, hz2⟩ := info_parts infoI
  have HF := Lib.hid (rfrees_any A L c blocks w hs hk)
  have hfl := frees_len L blocks (top blocks)
  have htl := top_le blocks
  have htf := takeL_form L blocks n
  obtain ⟨TB, hTB⟩ : ∃ b, b = takeB L blocks n := ⟨_, rfl⟩
  have htb : TB = decide (0 ≤ n ∧ n ≤ ((frees L blocks (top blocks)).length : Int)) := hTB
  rw [← hTB] at htf ⊢
  generalize takeL L blocks n = T at *
  generalize frees L blocks (top blocks) = F at *
  clear hs hk hTB
  by_cases h0 : 0 ≤ n
  · by_cases h1 : n ≤ (F.length : Int)
    · obtain rfl : TB = true := by rw [htb]; exact decide_eq_true ⟨h0, h1⟩
      obtain ⟨m, rfl⟩ := Int.eq_ofNat_of_zero_le h0
      rw [if_pos rfl, Int.toNat_natCast] at htf
      have hTl : T.length = m := by rw [htf, List.length_take]; omega
      have HT := Lib.hid htf
      have HTL := Lib.hid hTl
      have hmF : m ≤ F.length := by omega
      clear htb htf hTl
      go_enter Try.func21, Try.ntmps21
      go_wp2_with fail
      refine HF.out.mono ?_
      rintro e w1 ⟨A1, c1, rfl, hs1, hc1, _, hb1⟩
      have HS1 := Lib.hid hs1
      have HB1 := Lib.hid hb1
      clear hs1 hb1
      go_wp2_with (refine wpList_slice_sl rfl _ _ _ _ _ rfl 3 i0 1 Try.underlying22 hi0 hz1 A1 F.length c1 rfl 0 m c1 (.inl ⟨rfl, rfl⟩) (.inr ⟨_, _, rfl, by omega⟩) (.inl ⟨rfl, by omega⟩) (by omega) (by omega) (by omega) HS1.out ?_; intro A2 hs2)
      go_ret2
      refine ⟨A2, c1, by rw [HTL.out]; rfl, ?_, by rw [HTL.out]; omega, HB1.out⟩
      rw [HTL.out, HT.out]
      simpa [List.map_take] using hs2
    · obtain rfl : TB = false := by rw [htb]; exact decide_eq_false fun h => h1 h.2
      rw [if_neg (by decide), List.take_zero] at htf
      subst htf
      have hgt : (F.length : Int) < n := by omega
      clear htb h1
      go_enter Try.func21, Try.ntmps21
      go_wp2_with fail
      refine HF.out.mono ?_
      rintro e w1 ⟨A1, c1, rfl, hs1, hc1, _, hb1⟩
      have HB1 := Lib.hid hb1
      clear hs1 hb1
      go_wp2_with fail
      go_ret2
      exact ⟨none, 0, rfl, Sl.nil _, Nat.le_refl _, HB1.out⟩
  · obtain rfl : TB = false := by rw [htb]; exact decide_eq_false fun h => h0 h.1
    rw [if_neg (by decide), List.take_zero] at htf
    subst htf
    have hgt : n < 0 := by omega
    clear htb
    go_enter Try.func21, Try.ntmps21
    go_wp2_with fail
    refine HF.out.mono ?_
    rintro e w1 ⟨A1, c1, rfl, hs1, hc1, _, hb1⟩
    have HB1 := Lib.hid hb1
    clear hs1 hb1
    go_wp2_with fail
    go_ret2
    exact ⟨none, 0, rfl, Sl.nil _, Nat.le_refl _, HB1.out⟩
end Go.Proofs.Ytipdaecihfkonaa.Bt
