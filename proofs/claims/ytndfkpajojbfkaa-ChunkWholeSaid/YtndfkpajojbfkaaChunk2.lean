/-
  chunk: Touched, the program's and the document's.
-/
import Derived.Test.YtndfkpajojbfkaaChunk1
namespace Go.Proofs.Ytndfkpajojbfkaa.Ck
open Go.RowKit Wd Is Sp Fl Ga
set_option linter.unusedVariables false

/-- a list of ints and a truth: what Touched hands back -/
def TR (w : World) (l : List Int) (e : Ending) (w' : World) : Prop :=
  ∃ A c, e = .returned (.tuple #[.slice A l.length c, .bool true]) ∧ Sl w' w'.heap.size 1 A l.length (l.map (Value.int .i64)) ∧ l.length ≤ c ∧ Below w.heap.size w w'
theorem tr_own {w w' : World} {l : List Int} {v : Value} {B n : Nat} {e : TypeId} (hn : n = l.length) (h : w'.ownsRow B e 1 v n (l.map (Value.int .i64))) (hb : Below w.heap.size w w') : TR w l (.returned (.tuple #[v, .bool true])) w' := by
  subst hn
  obtain ⟨A, c, rfl, h1, h2, h3⟩ := Mine.form (.inr h)
  exact ⟨A, c, rfl, h3, h1, hb⟩
theorem own_nil (w : World) (B : Nat) (e : TypeId) : w.ownsRow B e 1 (.slice none 0 0) 0 [] := World.ownsRow_nil _ _ _ _
section
variable {s : Int}
theorem touched_no {a n : Int} (h : ¬ May s a n) (w : World) : Calls Try.prog 10 #[.int .i64 s, .int .i64 a, .int .i64 n] w fun e w' => e = .returned (.tuple #[.slice none 0 0, .bool false]) ∧ w = w' := by
  have HS := Lib.hid (fun w => size_no h w)
  clear h
  go_enter Try.func10, Try.ntmps10
  go_wp2_with fail
  refine (HS.out _).mono ?_
  rintro e w' ⟨rfl, rfl⟩
  go_wp2_with fail
  go_ret2
  exact ⟨rfl, rfl⟩
theorem run_more {f k : Nat} : (run f k).map (Value.int .i64) ++ [Value.int .i64 ((f : Int) + (k : Int))] = (run f (k + 1)).map (Value.int .i64) := by
  rw [run_succ, List.map_append]
  simp
set_option maxHeartbeats 400000 in
theorem touched_yes {a n : Nat} (h : May s a n) (w : World) : Calls Try.prog 10 #[.int .i64 s, .int .i64 (a : Int), .int .i64 (n : Int)] w (TR w (touched a n)) := by
  have HS := Lib.hid (fun w => size_yes h w)
  obtain ⟨i0, hi, hz0, hz1, hz2⟩ := info_parts infoI
  by_cases h0 : n = 0
  · subst h0
    have HT := Lib.hid (fun w => stretch_no (a := a) (n := ((0 : Nat) : Int)) (by unfold Some; omega) w)
    have HE : Hid (touched a 0 = []) := rfl
    clear h
    generalize sizeZ s a ((0 : Nat) : Int) = z at *
    go_enter Try.func10, Try.ntmps10
    go_wp2_with fail
    refine (HS.out _).mono ?_
    rintro e w' ⟨rfl, rfl⟩
    go_wp2_with fail
    refine (HT.out _).mono ?_
    rintro e w' ⟨rfl, rfl⟩
    go_wp2_with fail
    refine (ends_zero _).mono ?_
    rintro e w' ⟨rfl, rfl⟩
    go_wp2_with fail
    go_loop [39, 10] (fun i v => i = .int .i64 0 ∧ v = .slice none 0 0) (fun _ _ => 0)
    case atStart => exact ⟨rfl, rfl⟩
    case round =>
      obtain ⟨rfl, rfl⟩ := hrel
      go_wp2_with fail
      go_ret2
      rw [HE.out]
      exact tr_own rfl (own_nil _ 0 3) (Below.refl _ _)
  · have hc := cnt_le a n (by unfold May at h; omega)
    have h1 : (a : Int) / 128 = ((a / 128 : Nat) : Int) := by omega
    have h2 : ((a : Int) + n - 1) / 128 - (a : Int) / 128 + 1 = ((cnt a n : Nat) : Int) := by unfold cnt; rw [if_neg h0]; omega
    have HT := Lib.hid (fun w => stretch_yes (a := a) (n := n) (by unfold Some; unfold May at h; omega) w)
    have HN := Lib.hid (fun w => ends_yes (a := (a : Int) / 128) (n := ((a : Int) + n - 1) / 128 - (a : Int) / 128 + 1) (by unfold St; unfold May at h; omega) w)
    rw [h1] at h2
    rw [h1, h2] at HN
    rw [h1, h2] at HT
    have hf : a / 128 ≤ 32 := by unfold May at h; omega
    have HL : Hid (touched a n = run (a / 128) (cnt a n)) := rfl
    clear h h0 h1 h2
    generalize sizeZ s a n = z at *
    generalize cnt a n = m at *
    generalize a / 128 = f at *
    generalize fz (f : Int) = p at *
    generalize fz (m : Int) = q at *
    have hf0 : (f : Int) ≤ 32 := by omega
    have hm0 : (m : Int) ≤ 33 := by omega
    have hff : (0 : Int) ≤ (f : Int) := by omega
    have hmm : (0 : Int) ≤ (m : Int) := by omega
    have hd : (f : Int) + (m : Int) - (f : Int) = (m : Int) := by omega
    have HD := Lib.hid hd
    clear hd
    go_enter Try.func10, Try.ntmps10
    go_wp2_with fail
    refine (HS.out _).mono ?_
    rintro e w' ⟨rfl, rfl⟩
    go_wp2_with fail
    refine (HT.out _).mono ?_
    rintro e w' ⟨rfl, rfl⟩
    go_wp2_with fail
    refine (HN.out _).mono ?_
    rintro e w' ⟨rfl, rfl⟩
    go_wp2_with fail
    go_loopw [39, 10] (fun i v wr => ∃ k : Nat, k ≤ m ∧ i = .int .i64 (k : Int) ∧ wr.ownsRow w.heap.size 3 1 v k ((run f k).map (Value.int .i64)) ∧ Below w.heap.size w wr) (fun i _ _ => m - (intOf i).toNat)
    case atStart => exact ⟨0, by omega, rfl, own_nil _ _ _, Below.refl _ _⟩
    case round =>
      obtain ⟨k, hk, rfl, hown, hbel⟩ := hrel
      by_cases hlt : k < m
      · have hltI : (k : Int) < (m : Int) := by omega
        have hlt2 : (k : Int) < (f : Int) + (m : Int) - (f : Int) := by omega
        have hB := hbel.size
        have HB := Lib.hid hbel
        go_wp2_with (at_builtin; refine wpList_append_mine rfl (.tmp 42) (.tmp 46) _ _ rfl w.heap.size 3 i0 (.int .i64 0) 1 8 hz1 hz2 rfl (by decide) _ _ _ rfl (Mine.alloc (.inr hown) _) _ 1 [.int .i64 ((f : Int) + (k : Int))] rfl (Gives.elem Try.underlying24 hi hz0 hz1 _ rfl) (by simp only [maxLen]; omega) (by omega) (by simp; omega) ?_; intro A2 c2 w2 hm2 hg2 hb2 hat2 hown2)
        have ho := hown2 (.inl (by decide))
        rw [run_more] at ho
        have HO := Lib.hid ho
        have HB2 := Lib.hid hb2
        clear ho hown2 hat2 hg2 hm2 hb2
        go_wp2_with fail
        go_roundw
        case rel => exact ⟨k + 1, by omega, by go_num, HO.out, (HB.out.alloc hB _).trans HB2.out⟩
        case measure => simp [intOf]; omega
      · have hge : (m : Int) ≤ (k : Int) := by omega
        obtain rfl : k = m := by omega
        have HO := Lib.hid hown
        have HB := Lib.hid hbel
        clear hown hbel
        go_wp2_with fail
        go_ret2
        rw [HL.out]
        exact tr_own (run_len _ _).symm HO.out HB.out
theorem rtouched_no {a n : Int} (h : ¬ May s a n) (w : World) : Calls Try.prog 11 #[.int .i64 s, .int .i64 a, .int .i64 n] w fun e w' => e = .returned (.tuple #[.slice none 0 0, .bool false]) ∧ w = w' := by
  have HS := Lib.hid (fun w => rmay_no h w)
  clear h
  go_enter Try.func11, Try.ntmps11
  go_wp2_with fail
  refine (HS.out _).mono ?_
  rintro e w' ⟨rfl, rfl⟩
  go_wp2_with fail
  go_ret2
  exact ⟨rfl, rfl⟩
set_option maxHeartbeats 800000 in
theorem rtouched_yes {a n : Nat} (h : May s a n) (w : World) : Calls Try.prog 11 #[.int .i64 s, .int .i64 (a : Int), .int .i64 (n : Int)] w (TR w (touched a n)) := by
  have HS := Lib.hid (fun w => rmay_yes h w)
  obtain ⟨i0, hi, hz0, hz1, hz2⟩ := info_parts infoI
  have hle : a + n ≤ 4096 := by unfold May at h; omega
  clear h
  have ha0 : (0 : Int) ≤ (a : Int) := by omega
  have hn0 : (0 : Int) ≤ (n : Int) := by omega
  have ha4 : (a : Int) ≤ 4096 := by omega
  have hn4 : (n : Int) ≤ 4096 := by omega
  go_enter Try.func11, Try.ntmps11
  go_wp2_with fail
  refine (HS.out _).mono ?_
  rintro e w' ⟨rfl, rfl⟩
  go_wp2_with fail
  go_loopw [8, 9] (fun v i wr => ∃ j : Nat, j ≤ n ∧ i = .int .i64 ((a + j : Nat) : Int) ∧ wr.ownsRow w.heap.size 3 1 v (cnt a j) ((touched a j).map (Value.int .i64)) ∧ Below w.heap.size w wr) (fun _ i _ => a + n - (intOf i).toNat)
  case atStart => exact ⟨0, by omega, rfl, own_nil _ _ _, Below.refl _ _⟩
  case round =>
    obtain ⟨j, hj, rfl, hown, hbel⟩ := hrel
    have hB := hbel.size
    have HB := Lib.hid hbel
    have HO := Lib.hid hown
    clear hown hbel
    obtain ⟨p, hp⟩ : ∃ p, p = a + j := ⟨_, rfl⟩
    rw [← hp]
    have HP := Lib.hid hp
    have hp0 : (0 : Int) ≤ (p : Int) := by omega
    have hp4 : (p : Int) ≤ 4096 := by omega
    have hcn := cnt_le a j (by omega)
    by_cases hlt : j < n
    · have hltI : (p : Int) < (a : Int) + (n : Int) := by omega
      obtain ⟨q, hqd⟩ : ∃ q : Nat, q = p / 128 := ⟨_, rfl⟩
      have hq : (p : Int) / 128 = (q : Int) := by omega
      by_cases h0 : j = 0
      · subst h0
        have hmore : touched a (0 + 1) = touched a 0 ++ [(q : Int)] := by rw [touched_more a 0 (.inl rfl), hqd, hp]
        have HM := Lib.hid hmore
        have HC : Hid (cnt a (0 + 1) = 0 + 1) := by show _ = _; rw [cnt_succ]; rfl
        obtain ⟨A, c, rfl, _⟩ := Mine.form (.inr HO.out)
        have hcn0 : cnt a 0 = 0 := rfl
        rw [hcn0] at HO
        clear hmore hqd hp hcn
        go_wp2_with (at_builtin; refine wpList_append_mine rfl (.tmp 39) (.tmp 41) _ _ rfl w.heap.size 3 i0 (.int .i64 0) 1 8 hz1 hz2 rfl (by decide) _ _ _ rfl (Mine.alloc (.inr HO.out) _) _ 1 [.int .i64 (q : Int)] rfl (Gives.elem Try.underlying24 hi hz0 hz1 _ rfl) (by simp only [maxLen]; omega) (by omega) (by simp; omega) ?_; intro A2 c2 w2 hm2 hg2 hb2 hat2 hown2)
        have ho := hown2 (.inl (by decide))
        have HOO := Lib.hid ho
        have HB2 := Lib.hid hb2
        clear ho hown2 hat2 hg2 hm2 hb2
        go_wp2_with fail
        go_roundw
        case rel => exact ⟨0 + 1, by omega, by rw [HP.out]; go_num, by rw [HC.out, HM.out, List.map_append]; exact HOO.out, (HB.out.alloc hB _).trans HB2.out⟩
        case measure => simp [intOf]; omega
      · obtain ⟨m, hm⟩ : ∃ m, cnt a j = m + 1 := ⟨cnt a j - 1, by unfold cnt; rw [if_neg h0]; omega⟩
        obtain ⟨l, hl⟩ : ∃ l : Nat, l = (a + j - 1) / 128 := ⟨_, rfl⟩
        have hlast := touched_last a j (by omega)
        rw [touched_len, hm, Nat.add_sub_cancel, ← hl] at hlast
        rw [hm] at HO hcn
        obtain ⟨A, c, rfl, _⟩ := Mine.form (.inr HO.out)
        obtain ⟨b, off, rfl, hb, hcell⟩ := (Sl.own HO.out).at (by omega) (by decide)
        have hc1 := hcell m (.int .i64 (l : Int)) (by simp [hlast])
        clear hcell hb hlast
        have HMM := Lib.hid hm
        clear hm
        by_cases hlq : l = q
        · have hb : ((l : Int) != (q : Int)) = false := by rw [hlq]; simp
          have hsame : touched a (j + 1) = touched a j := touched_same a j (by omega)
          have HS1 := Lib.hid hsame
          have HC : Hid (cnt a (j + 1) = m + 1) := by
            show _ = _
            rw [cnt_succ, if_neg (by omega), HMM.out]
          clear hsame hlq hl hqd hp
          go_wp2_with fail
          go_roundw
          case rel => exact ⟨j + 1, by omega, by rw [HP.out]; go_num, by rw [HC.out, HS1.out]; exact HO.out, HB.out⟩
          case measure => simp [intOf]; omega
        · have hb : ((l : Int) != (q : Int)) = true := by simp; omega
          have hmore : touched a (j + 1) = touched a j ++ [(q : Int)] := by rw [touched_more a j (.inr (by omega)), hqd, hp]
          have HM := Lib.hid hmore
          have HC : Hid (cnt a (j + 1) = m + 1 + 1) := by
            show _ = _
            rw [cnt_succ, if_pos (.inr (by omega)), HMM.out]
          clear hmore hlq hl hqd hp
          go_wp2_with (at_builtin; refine wpList_append_mine rfl (.tmp 39) (.tmp 41) _ _ rfl w.heap.size 3 i0 (.int .i64 0) 1 8 hz1 hz2 rfl (by decide) _ _ _ rfl (Mine.alloc (.inr HO.out) _) _ 1 [.int .i64 (q : Int)] rfl (Gives.elem Try.underlying24 hi hz0 hz1 _ rfl) (by simp only [maxLen]; omega) (by omega) (by simp; omega) ?_; intro A2 c2 w2 hm2 hg2 hb2 hat2 hown2)
          have ho := hown2 (.inl (by decide))
          have HOO := Lib.hid ho
          have HB2 := Lib.hid hb2
          clear ho hown2 hat2 hg2 hm2 hb2
          go_wp2_with fail
          go_roundw
          case rel => exact ⟨j + 1, by omega, by rw [HP.out]; go_num, by rw [HC.out, HM.out, List.map_append]; exact HOO.out, (HB.out.alloc hB _).trans HB2.out⟩
          case measure => simp [intOf]; omega
    · have hge : (a : Int) + (n : Int) ≤ (p : Int) := by omega
      obtain rfl : j = n := by omega
      clear hp
      go_wp2_with fail
      go_ret2
      exact tr_own (touched_len _ _).symm HO.out HB.out
end
end Go.Proofs.Ytndfkpajojbfkaa.Ck
