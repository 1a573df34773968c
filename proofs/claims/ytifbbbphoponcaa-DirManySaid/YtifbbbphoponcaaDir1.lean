/-
  dir: Name.
-/
import Derived.Test.YtifbbbphoponcaaDir0
import Derived.Test.YtifbbbphoponcaaProg
import Derived.LoopTactic
import Derived.RegionTactic
namespace Go.Proofs.Ytifbbbphoponcaa.Dr
open Go.RowKit Wd
set_option linter.unusedVariables false

theorem name_cases (s : ByteArray) : (nameB s = false ∧ s.size < 1) ∨ (nameB s = false ∧ 20 < s.size) ∨ (1 ≤ s.size ∧ s.size ≤ 20 ∧ nameB s = false ∧ (s.toList == [46]) = true) ∨
    (1 ≤ s.size ∧ s.size ≤ 20 ∧ (s.toList == [46]) = false ∧ nameB s = false ∧ (s.toList == [46, 46]) = true) ∨
    (1 ≤ s.size ∧ s.size ≤ 20 ∧ (s.toList == [46]) = false ∧ (s.toList == [46, 46]) = false ∧ nameB s = (List.range s.size).all (fun i => ncB (s.data.toList.getD i 0).toNat)) := by
  have l1 : dot.toList = [46] := by rw [toList_data]; rfl
  have l2 : dots.toList = [46, 46] := by rw [toList_data]; rfl
  have e1 : eqS s dot = (s.toList == [46]) := by unfold eqS; rw [l1]
  have e2 : eqS s dots = (s.toList == [46, 46]) := by unfold eqS; rw [l2]
  unfold nameB
  rw [e1, e2]
  by_cases h1 : 1 ≤ s.size
  · by_cases h2 : s.size ≤ 20
    · rw [decide_eq_true h1, decide_eq_true h2]
      cases h3 : (s.toList == [46])
      · cases h4 : (s.toList == [46, 46])
        · exact .inr (.inr (.inr (.inr ⟨h1, h2, rfl, rfl, by simp⟩)))
        · exact .inr (.inr (.inr (.inl ⟨h1, h2, rfl, by simp, rfl⟩)))
      · exact .inr (.inr (.inl ⟨h1, h2, by simp, rfl⟩))
    · exact .inr (.inl ⟨by rw [decide_eq_false h2]; simp, by omega⟩)
  · exact .inl ⟨by rw [decide_eq_false h1]; simp, by omega⟩

set_option maxHeartbeats 1600000 in
theorem name_any (s : ByteArray) (hs : s.size ≤ 9223372036854775807) (w : World) : Calls Try.prog 20 #[.string s] w fun e w' => e = .returned (.bool (nameB s)) ∧ w = w' := by
  rcases name_cases s with ⟨hn, h1⟩ | ⟨hn, h1⟩ | ⟨h1, h2, hn, h3⟩ | ⟨h1, h2, h3, hn, h4⟩ | ⟨h1, h2, h3, h4, hn⟩
  · rw [hn]
    have h1I : (s.size : Int) < 1 := by omega
    clear hn h1
    go_enter Try.func20, Try.ntmps20
    go_wp2
    go_ret
    exact ⟨rfl, rfl⟩
  · rw [hn]
    have h1I : (20 : Int) < (s.size : Int) := by omega
    have h0I : (1 : Int) ≤ (s.size : Int) := by omega
    clear hn h1
    go_enter Try.func20, Try.ntmps20
    go_wp2
    go_ret
    exact ⟨rfl, rfl⟩
  · rw [hn]
    have h1I : (1 : Int) ≤ (s.size : Int) := by omega
    have h2I : (s.size : Int) ≤ 20 := by omega
    clear hn h1 h2
    go_enter Try.func20, Try.ntmps20
    go_wp2
    go_ret
    exact ⟨rfl, rfl⟩
  · rw [hn]
    have h1I : (1 : Int) ≤ (s.size : Int) := by omega
    have h2I : (s.size : Int) ≤ 20 := by omega
    clear hn h1 h2
    go_enter Try.func20, Try.ntmps20
    go_wp2
    go_ret
    exact ⟨rfl, rfl⟩
  · have h1I : (1 : Int) ≤ (s.size : Int) := by omega
    have h2I : (s.size : Int) ≤ 20 := by omega
    have HN := Lib.hid hn
    clear hn
    go_enter Try.func20, Try.ntmps20
    go_wp2
    go_loop [23] (fun i => ∃ k : Nat, k ≤ s.size ∧ i = .int .i64 (k : Int) ∧ (List.range k).all (fun i => ncB (s.data.toList.getD i 0).toNat) = true) (fun i => s.size - (intOf i).toNat)
    case atStart => exact ⟨0, by omega, rfl, rfl⟩
    case round =>
      obtain ⟨k, hk, rfl, hall⟩ := hrel
      have HA := Lib.hid hall
      clear hall
      by_cases hlt : k < s.size
      · have hltI : (k : Int) < (s.size : Int) := by omega
        have hk0 : (0 : Int) ≤ (k : Int) := by omega
        have hx : s.data.toList.getD k 0 = s[k] := by
          have : s.data.toList[k]? = some s[k] := by rw [Array.getElem?_toList, Array.getElem?_eq_getElem]; rfl
          rw [List.getD_eq_getElem?_getD, this]; rfl
        have HX := Lib.hid hx
        clear hx
        cases hc : ncB s[k].toNat
        · have HF : Hid (nameB s = false) := by
            show _ = _
            rw [HN.out, List.all_eq_false]
            exact ⟨k, List.mem_range.2 hlt, by rw [HX.out, hc]; simp⟩
          have hC : (¬ (97 ≤ (s[k].toNat : Int) ∧ (s[k].toNat : Int) ≤ 122) ∧ ¬ (48 ≤ (s[k].toNat : Int) ∧ (s[k].toNat : Int) ≤ 57) ∧ (s[k].toNat : Int) ≠ 46 ∧ (s[k].toNat : Int) ≠ 95 ∧ (s[k].toNat : Int) ≠ 45) := by
            simp [ncB] at hc
            refine ⟨?_, ?_, ?_, ?_, ?_⟩ <;> omega
          have HC := Lib.hid hC
          clear hc hC
          go_wp2
          all_goals first
            | (exfalso; have := HC.out; clear HN HA; simp only [bne_iff_ne, ne_eq, bne_eq_false_iff_eq] at *; omega)
            | (go_ret; exact ⟨by rw [HF.out]; rfl, rfl⟩)
        · have HN2 : Hid ((List.range (k + 1)).all (fun i => ncB (s.data.toList.getD i 0).toNat) = true) := by
            show _ = _
            rw [List.range_succ, List.all_append, HA.out]
            simp only [List.all_cons, List.all_nil, HX.out, hc, Bool.and_true]
          have hC : ((97 ≤ (s[k].toNat : Int) ∧ (s[k].toNat : Int) ≤ 122) ∨ (48 ≤ (s[k].toNat : Int) ∧ (s[k].toNat : Int) ≤ 57) ∨ (s[k].toNat : Int) = 46 ∨ (s[k].toNat : Int) = 95 ∨ (s[k].toNat : Int) = 45) := by
            simp [ncB] at hc
            omega
          have HC := Lib.hid hC
          clear hc hC
          go_wp2
          all_goals first
            | (exfalso; have := HC.out; clear HN HA; simp only [bne_iff_ne, ne_eq, bne_eq_false_iff_eq] at *; omega)
            | (go_round
               case rel => exact ⟨k + 1, by omega, by go_num, HN2.out⟩
               case measure => simp [intOf]; omega)
      · have hge : (s.size : Int) ≤ (k : Int) := by omega
        obtain rfl : k = s.size := by omega
        go_wp2
        go_ret
        exact ⟨by rw [HN.out, HA.out]; rfl, rfl⟩
end Go.Proofs.Ytifbbbphoponcaa.Dr
