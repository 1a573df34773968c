/-
  inode.Check of any inode; the document's Check and its pointers.
-/
import Derived.Test.YtgfhepfikphliaaInode3
namespace Go.Proofs.Ytgfhepfikphliaa.In
open Go.RowKit Wd
set_option linter.unusedVariables false

theorem check_any (k0 s0 l0 o0 n0 : Int) (ps : List Int) (hps : ps.length = 32) (w : World) : Calls Try.prog 23 #[.agg (ints (k0 :: s0 :: l0 :: o0 :: n0 :: ps))] w fun e w' => e = .returned (.bool (chk k0 s0 l0 o0 n0 ps)) ∧ Below w.heap.size w w' := by
  by_cases h0 : k0 = 0
  · subst h0
    exact check_zero s0 l0 o0 n0 ps hps w
  · cases hh : hdr k0 s0 l0 o0 n0
    · have : chk k0 s0 l0 o0 n0 ps = false := by simp [chk, h0, hh]
      rw [this]
      exact check_bad k0 s0 l0 o0 n0 ps h0 w hh
    · have : chk k0 s0 l0 o0 n0 ps = (List.range 32).all (okAt (k0 == 2) s0 ps) := by simp [chk, h0, hh]
      rw [this]
      exact check_good k0 s0 l0 o0 n0 ps hps h0 w hh

theorem all_lt {ps : List Int} {k : Nat} {p : Int} (h : (ps.take k).contains p = false) (j : Nat) (hj : j < k) (v : Int) (hv : ps[j]? = some v) : ¬ v = p := by
  intro e
  subst e
  have hm : v ∈ ps.take k := by
    refine List.mem_of_getElem? (i := j) ?_
    rw [List.getElem?_take, if_pos hj, hv]
  have : (ps.take k).contains v = true := by simpa using hm
  rw [h] at this
  cases this
theorem ex_lt {ps : List Int} {k : Nat} {p : Int} (h : ∀ j, j < k → ∀ v, ps[j]? = some v → ¬ v = p) : (ps.take k).contains p = false := by
  rw [Bool.eq_false_iff]
  intro hc
  have hm : p ∈ ps.take k := by simpa using hc
  obtain ⟨j, hj⟩ := List.getElem?_of_mem hm
  rw [List.getElem?_take] at hj
  split at hj
  · exact h j (by assumption) p hj rfl
  · cases hj

set_option maxRecDepth 100000 in
set_option maxHeartbeats 1600000 in
theorem ptrs_any (k0 s0 l0 o0 n0 : Int) (ps : List Int) (hps : ps.length = 32) (w : World) (hs0 : 0 ≤ s0) (hs1 : s0 ≤ 4096) :
    Calls Try.prog 27 #[.agg (ints (k0 :: s0 :: l0 :: o0 :: n0 :: ps))] w fun e w' => e = .returned (.bool ((List.range 32).all (okAt (k0 == 2) s0 ps))) ∧ Below w.heap.size w w' := by
  have hc0 := ino_cell w (k0 :: s0 :: l0 :: o0 :: n0 :: ps) 24 0 k0 rfl
  have hc1 := ino_cell w (k0 :: s0 :: l0 :: o0 :: n0 :: ps) 24 1 s0 rfl
  have hcp : ∀ i v, ps[i]? = some v → (w.alloc (.cells (ints (k0 :: s0 :: l0 :: o0 :: n0 :: ps)) 24)).cell? ⟨w.heap.size, 5 + i, none⟩ = some (.int .i64 v) := by
    intro i v h
    exact ino_cell w (k0 :: s0 :: l0 :: o0 :: n0 :: ps) 24 (5 + i) v (by rw [Nat.add_comm]; simpa using h)
  have hbel : Below w.heap.size w (w.alloc (.cells (ints (k0 :: s0 :: l0 :: o0 :: n0 :: ps)) 24)) := (Below.refl _ _).alloc (Nat.le_refl _) _
  generalize (k0 :: s0 :: l0 :: o0 :: n0 :: ps) = xs at *
  have HP := Lib.hid hcp
  have HB := Lib.hid hbel
  clear hcp hbel
  obtain ⟨N, hN⟩ : ∃ N : Int, N = (s0 + 128 - 1) / 128 := ⟨_, rfl⟩
  have hN0 : 0 ≤ N := by omega
  have hN1 : N ≤ 32 := by omega
  have hNk : ∀ k : Nat, ((k : Int) * 128 < s0 ↔ (k : Int) < N) := by
    intro k
    omega
  have HN := Lib.hid hN
  have HNK := Lib.hid hNk
  clear hNk hN
  go_enter Try.func27, Try.ntmps27
  go_wp2
  rw [← HN.out]
  go_loopw [4] (fun j wr => ∃ k : Nat, k ≤ 32 ∧ j = .int .i64 (k : Int) ∧ (∀ i, i < k → okAt (k0 == 2) s0 ps i = true) ∧ w.alloc (.cells (ints xs) 24) = wr) (fun j _ => 32 - (intOf j).toNat)
  case atStart => exact ⟨0, by omega, rfl, by intro i hi; omega, rfl⟩
  case round =>
    obtain ⟨k, hk, rfl, hok, rfl⟩ := hrel
    by_cases hlt : k < 32
    · have hltI : (k : Int) < 32 := by omega
      obtain ⟨p, hp⟩ : ∃ p, ps[k]? = some p := ⟨ps[k], List.getElem?_eq_getElem (by omega)⟩
      have hcpk := HP.out k p hp
      have HOK := Lib.hid hok
      have HPK := Lib.hid hp
      clear hok hp
      by_cases hp0 : p = 0
      · subst hp0
        by_cases hsz : (k : Int) < N <;> by_cases h2 : k0 = 2
        all_goals
          go_wp2
          all_goals first
          | (go_roundw
             case rel => exact ⟨k + 1, by omega, by simp, ok_next HOK.out (by rw [ok_zero HPK.out]; simp [HNK.out k, hsz, h2]), by trivial⟩
             case measure => simp [intOf]; omega)
          | (go_ret
             exact ⟨(congrArg (fun b => Ending.returned (.bool b)) (all_no hlt (by rw [ok_zero HPK.out]; simp [HNK.out k, hsz, h2]))).symm, HB.out⟩)
      · cases hin : inB p 74 1023
        · go_wp2_with (go_at_call 26; refine (rin_any _ _ _ _).mono ?_; rintro e w2 ⟨rfl, rfl⟩)
          go_ret
          exact ⟨(congrArg (fun b => Ending.returned (.bool b)) (all_no hlt (by rw [ok_ptr HPK.out hp0, hin]; simp))).symm, HB.out⟩
        · by_cases hsz : (k : Int) < N
          · go_wp2_with (go_at_call 26; refine (rin_any _ _ _ _).mono ?_; rintro e w2 ⟨rfl, rfl⟩)
            go_loopw [6] (fun j wr => ∃ t : Nat, t ≤ k ∧ j = .int .i64 (t : Int) ∧ (∀ i, i < t → ∀ v, ps[i]? = some v → ¬ v = p) ∧ w.alloc (.cells (ints xs) 24) = wr) (fun j _ => k - (intOf j).toNat)
            case atStart => exact ⟨0, by omega, rfl, by intro i hi; omega, rfl⟩
            case round =>
              obtain ⟨t, ht, rfl, hne, rfl⟩ := hrel
              by_cases htk : t < k
              · have htkI : (t : Int) < (k : Int) := by omega
                have ht32 : (t : Int) < 32 := by omega
                obtain ⟨q, hq⟩ : ∃ q, ps[t]? = some q := ⟨ps[t], List.getElem?_eq_getElem (by omega)⟩
                have hcpt := HP.out t q hq
                have HNE := Lib.hid hne
                have HQ := Lib.hid hq
                clear hne hq
                by_cases hqp : q = p
                · go_wp2
                  go_ret
                  refine ⟨(congrArg (fun b => Ending.returned (.bool b)) (all_no hlt ?_)).symm, HB.out⟩
                  rw [ok_ptr HPK.out hp0]
                  cases hc : (ps.take k).contains p
                  · exact absurd hqp (all_lt hc t htk q HQ.out)
                  · simp
                · go_wp2
                  go_roundw
                  case measure => simp [intOf]; omega
                  case rel =>
                  refine ⟨t + 1, by omega, by simp, ?_, by trivial⟩
                  intro i hi v hv
                  by_cases he : i = t
                  · subst he
                    rw [HQ.out] at hv
                    injection hv with hv
                    subst hv
                    exact hqp
                  · exact HNE.out i (by omega) v hv
              · have htkI : (k : Int) ≤ (t : Int) := by omega
                have hte : t = k := by omega
                have HNE := Lib.hid hne
                have HTE := Lib.hid hte
                clear hne hte
                go_wp2
                go_roundw
                case measure => simp [intOf]; omega
                case rel =>
                refine ⟨k + 1, by omega, by simp, ok_next HOK.out ?_, by trivial⟩
                rw [ok_ptr HPK.out hp0, hin, ex_lt (HTE.out ▸ HNE.out)]
                simp [HNK.out k, hsz]
          · go_wp2_with (go_at_call 26; refine (rin_any _ _ _ _).mono ?_; rintro e w2 ⟨rfl, rfl⟩)
            go_ret
            exact ⟨(congrArg (fun b => Ending.returned (.bool b)) (all_no hlt (by rw [ok_ptr HPK.out hp0, show decide ((k : Int) * 128 < s0) = false by simpa [HNK.out k] using hsz]; simp))).symm, HB.out⟩
    · have hk32 : k = 32 := by omega
      have hge : (32 : Int) ≤ (k : Int) := by omega
      go_wp2
      go_ret
      exact ⟨(congrArg (fun b => Ending.returned (.bool b)) (all_yes (by rw [← hk32]; exact hok))).symm, HB.out⟩
end Go.Proofs.Ytgfhepfikphliaa.In
