/-
  The contract of inode.Check: an inode whose header may be.
-/
import Derived.Test.YtgfhepfikphliaaInode2
namespace Go.Proofs.Ytgfhepfikphliaa.In
open Go.RowKit Wd
set_option linter.unusedVariables false

theorem all_no {d : Bool} {s : Int} {ps : List Int} {k : Nat} (hk : k < 32) (h : okAt d s ps k = false) : (List.range 32).all (okAt d s ps) = false := by
  rw [Bool.eq_false_iff]
  intro ha
  have := List.all_eq_true.1 ha k (List.mem_range.2 hk)
  rw [h] at this
  cases this
theorem all_yes {d : Bool} {s : Int} {ps : List Int} (h : ∀ i, i < 32 → okAt d s ps i = true) : (List.range 32).all (okAt d s ps) = true := List.all_eq_true.2 fun i hi => h i (List.mem_range.1 hi)
theorem ok_zero {d : Bool} {s : Int} {ps : List Int} {k : Nat} (hp : ps[k]? = some 0) : okAt d s ps k = !(d && decide ((k : Int) * 128 < s)) := by simp [okAt, hp]
theorem ok_ptr {d : Bool} {s : Int} {ps : List Int} {k : Nat} {p : Int} (hp : ps[k]? = some p) (h0 : ¬ p = 0) : okAt d s ps k = (decide ((k : Int) * 128 < s) && inB p 74 1023 && !((ps.take k).contains p)) := by simp [okAt, hp, h0]
theorem ok_next {d : Bool} {s : Int} {ps : List Int} {k : Nat} (h : ∀ i, i < k → okAt d s ps i = true) (hk : okAt d s ps k = true) : ∀ i, i < k + 1 → okAt d s ps i = true := by
  intro i hi
  by_cases he : i = k
  · rw [he]; exact hk
  · exact h i (by omega)
theorem seen_next {ps : List Int} {k : Nat} {p : Int} (hp : ps[k]? = some p) (n : Int) : (ps.take (k + 1)).contains n = ((ps.take k).contains n || n == p) := by
  rw [List.take_add_one, hp]
  simp
  by_cases h : n = p <;> simp [h]
theorem bel_drewN {B : Nat} {a w : World} (h : Below B a w) (n : Nat) : Below B a (w.drewN n) := ⟨h.os, h.tape, h.output, h.size, h.block⟩

set_option maxRecDepth 100000 in
set_option maxHeartbeats 1600000 in
theorem check_good (k0 s0 l0 o0 n0 : Int) (ps : List Int) (hps : ps.length = 32) (h0 : ¬ k0 = 0) (w : World) (hb : hdr k0 s0 l0 o0 n0 = true) :
    Calls Try.prog 23 #[.agg (ints (k0 :: s0 :: l0 :: o0 :: n0 :: ps))] w fun e w' => e = .returned (.bool ((List.range 32).all (okAt (k0 == 2) s0 ps))) ∧ Below w.heap.size w w' := by
  obtain ⟨B, hB⟩ : ∃ B, B = w.heap.size := ⟨_, rfl⟩
  have hc0 := ino_cell w (k0 :: s0 :: l0 :: o0 :: n0 :: ps) 24 0 k0 rfl
  have hc1 := ino_cell w (k0 :: s0 :: l0 :: o0 :: n0 :: ps) 24 1 s0 rfl
  have hc2 := ino_cell w (k0 :: s0 :: l0 :: o0 :: n0 :: ps) 24 2 l0 rfl
  have hc3 := ino_cell w (k0 :: s0 :: l0 :: o0 :: n0 :: ps) 24 3 o0 rfl
  have hc4 := ino_cell w (k0 :: s0 :: l0 :: o0 :: n0 :: ps) 24 4 n0 rfl
  have hcp : ∀ i v, ps[i]? = some v → (w.alloc (.cells (ints (k0 :: s0 :: l0 :: o0 :: n0 :: ps)) 24)).cell? ⟨w.heap.size, 5 + i, none⟩ = some (.int .i64 v) := by
    intro i v h
    exact ino_cell w (k0 :: s0 :: l0 :: o0 :: n0 :: ps) 24 (5 + i) v (by rw [Nat.add_comm]; simpa using h)
  generalize (k0 :: s0 :: l0 :: o0 :: n0 :: ps) = xs at *
  obtain ⟨w1, hw1⟩ : ∃ w1, w1 = w.alloc (.cells (ints xs) 24) := ⟨_, rfl⟩
  have hsz1 : w1.heap.size = w.heap.size + 1 := by subst hw1; simp
  have hbel : Below w.heap.size w w1 := by subst hw1; exact (Below.refl _ _).alloc (Nat.le_refl _) _
  have hS : ∀ n, n < 1024 → (w1.alloc (.cells zeros44 49)).cell? ⟨w1.heap.size, n, none⟩ = some (.bool false) := by
    intro n hn
    rw [cell_of_row _ _ n _ _ (0, 0) (heap_alloc_new w1 _)]
    exact zeros44_at n hn
  have hstore : (storeCells ⟨w.heap.size + 1, 0, none⟩ zeros44.toList 0).run Try.prog (w1.alloc (.cells zeros44 49)) = .ok () (w1.alloc (.cells zeros44 49)) := by
    rw [← hsz1]
    exact run_storeCells_new w1 _ zeros44 zeros44 size44 rfl ones44
  have hWx : ∀ i v, w1.cell? ⟨w.heap.size, i, none⟩ = some v → (w1.alloc (.cells zeros44 49)).cell? ⟨w.heap.size, i, none⟩ = some v := by
    intro i v h
    exact (Below.cell ((Below.refl w1.heap.size w1).alloc (Nat.le_refl _) _) (by show w.heap.size < w1.heap.size; omega)).trans h
  rw [hsz1] at hS
  have hWb : Below w.heap.size w (w1.alloc (.cells zeros44 49)) := hbel.alloc (by omega) _
  have hfz0 : ∀ n : Nat, (w1.alloc (.cells zeros44 49)).frozen? ⟨w.heap.size + 1, n, none⟩ = false := by
    intro n
    rw [← hsz1]
    exact World.frozen?_alloc_new w1 _ _ n
  have HWx := Lib.hid hWx
  have HWb := Lib.hid hWb
  clear hWx hWb hbel
  have e1 : inB k0 1 2 = true := by revert hb; simp [hdr]; intros; assumption
  have e2 : inB s0 0 4096 = true := by revert hb; simp [hdr]; intros; assumption
  have e3 : inB l0 0 10000 = true := by revert hb; simp [hdr]; intros; assumption
  have e4 : inB o0 1 16777215 = true := by revert hb; simp [hdr]; intros; assumption
  have e5 : inB n0 0 16777215 = true := by revert hb; simp [hdr]; intros; assumption
  have hs0 : 0 ≤ s0 ∧ s0 ≤ 4096 := by simpa [inB] using e2
  obtain ⟨hs0, hs1⟩ := hs0
  have hcases : k0 = 1 ∨ (k0 = 2 ∧ l0 = 1 ∧ Int.tmod s0 128 = 0) := by
    simp only [hdr, e1, e2, e3, e4, e5, Bool.true_and] at hb
    have hk : 1 ≤ k0 ∧ k0 ≤ 2 := by simpa [inB] using e1
    by_cases h2 : k0 = 2
    · right
      subst h2
      simp at hb
      refine ⟨rfl, hb.1, ?_⟩
      rw [Int.tmod_eq_emod_of_nonneg hs0]
      omega
    · left; omega
  clear hb
  have HP := Lib.hid hcp
  have HS := Lib.hid hS
  clear hcp hS
  subst hw1
  obtain ⟨D, hD⟩ : ∃ D, D = (k0 == 2) := ⟨_, rfl⟩
  rw [← hD]
  rcases hcases with h2 | ⟨h2, h1, hr⟩
  · subst h2
    have hDD : D = false := hD
    clear hD
    go_enter Try.func23, Try.ntmps23
    go_wp2_with (first
      | (go_at_call 32; refine (in_any _ _ _ _).mono ?_; rintro e w2 ⟨rfl, rfl⟩)
      | ((with_reducible show wpList _ _ _ (⟨some 59, _, _, _, _, _⟩ :: _) _ _); refine wpList_val rfl (.agg zeros44) _ (exec_build44 _ _ _ rfl) ?_)
      | ((with_reducible show wpList _ _ _ (⟨some 4, _, _, _, _, _⟩ :: _) _ _); refine wpList_val rfl _ _ (exec_alloc44 _ _ _ rfl) ?_))
    go_loopw [60] (fun j wr => ∃ k : Nat, k ≤ 32 ∧ j = .int .i64 (k : Int) ∧ (∀ i, i < k → okAt D s0 ps i = true) ∧ (∀ i v, (w.alloc (.cells (ints xs) 24)).cell? ⟨w.heap.size, i, none⟩ = some v → wr.cell? ⟨w.heap.size, i, none⟩ = some v)
        ∧ (∀ n : Nat, 1 ≤ n → n < 1024 → wr.cell? ⟨w.heap.size + 1, n, none⟩ = some (.bool ((ps.take k).contains (n : Int)))) ∧ (∀ n : Nat, wr.frozen? ⟨w.heap.size + 1, n, none⟩ = false) ∧ Below w.heap.size w wr)
      (fun j _ => 32 - (intOf j).toNat)
    case atStart => exact ⟨0, by omega, rfl, by intro i hi; omega, HWx.out, by intro n h1 h2; rw [HS.out n h2]; rfl, hfz0, HWb.out⟩
    case round =>
      obtain ⟨k, hk, rfl, hok, hx, hs, hfz, hbel⟩ := hrel
      by_cases hlt : k < 32
      · have hltI : (k : Int) < 32 := by omega
        obtain ⟨p, hp⟩ : ∃ p, ps[k]? = some p := ⟨ps[k], List.getElem?_eq_getElem (by omega)⟩
        have hwr : IntKind.i64.wrap ((k : Int) * 128) = (k : Int) * 128 := IntWalk.i64_in _ (by omega)
        have hcs := hx 1 _ hc1
        have hcpk := hx (5 + k) _ (HP.out k p hp)
        have HX := Lib.hid hx
        have HSS := Lib.hid hs
        have HOK := Lib.hid hok
        have HB := Lib.hid hbel
        have HPK := Lib.hid hp
        have HD := Lib.hid hDD
        clear hx hs hok hbel hp hDD hc0 hc1 hc2 hc3 hc4 e1 e2 e3 e4 e5 hstore
        by_cases hp0 : p = 0
        · subst hp0
          by_cases hsz : s0 ≤ (k : Int) * 128
          all_goals
            go_wp2
            go_quiet (fail)
            go_wp2
            all_goals first
            | (rename_i hbad; simp at hbad; exfalso; omega)
            | (refine ⟨⟨k + 1, by omega, by simp, ok_next HOK.out (by rw [ok_zero HPK.out, HD.out]; simp <;> omega), HX.out, ?_, hfz, bel_drewN HB.out _⟩, by simp [intOf]; omega⟩
               intro n hn1 hn2
               rw [seen_next HPK.out, World.cell?_drewN, HSS.out n hn1 hn2, show ((n : Int) == 0) = false by simp; omega, Bool.or_false])
            | (go_ret
               exact ⟨(congrArg (fun b => Ending.returned (.bool b)) (all_no hlt (by rw [ok_zero HPK.out, HD.out]; simp; omega))).symm, bel_drewN HB.out _⟩)
        · by_cases hsz : s0 ≤ (k : Int) * 128
          · go_wp2
            go_quiet (fail)
            go_wp2
            go_ret
            exact ⟨(congrArg (fun b => Ending.returned (.bool b)) (all_no hlt (by rw [ok_ptr HPK.out hp0]; simp; omega))).symm, bel_drewN HB.out _⟩
          · cases hin : inB p 74 1023
            · go_wp2
              go_quiet (fail)
              go_wp2_with (go_at_call 32; refine (in_any _ _ _ _).mono ?_; rintro e w2 ⟨rfl, rfl⟩)
              go_ret
              exact ⟨(congrArg (fun b => Ending.returned (.bool b)) (all_no hlt (by rw [ok_ptr HPK.out hp0, hin]; simp))).symm, bel_drewN HB.out _⟩
            · have hr2 : 74 ≤ p ∧ p ≤ 1023 := by simpa [inB] using hin
              obtain ⟨n, rfl⟩ : ∃ n : Nat, p = (n : Int) := ⟨p.toNat, by omega⟩
              have hn1 : 74 ≤ (n : Int) := hr2.1
              have hn2 : (n : Int) ≤ 1023 := hr2.2
              have hseen := HSS.out n (by omega) (by omega)
              have hfzn := hfz n
              cases hcon : (ps.take k).contains (n : Int)
              · rw [hcon] at hseen
                have HC := Lib.hid hcon
                clear hcon
                go_wp2
                go_quiet (fail)
                go_wp2_with (go_at_call 32; refine (in_any _ _ _ _).mono ?_; rintro e w2 ⟨rfl, rfl⟩)
                refine ⟨⟨k + 1, by omega, by simp, ok_next HOK.out (by rw [ok_ptr HPK.out hp0, hin, HC.out]; simp; omega), ?_, ?_, (fun m => (World.frozen?_setCell _ _ _ _).trans (hfz m)), (bel_drewN HB.out _).setCell (p := ⟨w.heap.size + 1, n, none⟩) (by show w.heap.size ≤ w.heap.size + 1; omega) _⟩, by simp [intOf]; omega⟩
                · intro i v h
                  rw [World.cell?_setCell_other _ _ _ _ (by simp)]
                  exact HX.out i v h
                · intro m hm1 hm2
                  by_cases hm : m = n
                  · subst hm
                    rw [World.cell?_setCell_same' _ _ _ (by rw [World.cell?_drewN, hseen]; rfl), seen_next HPK.out]
                    simp
                  · rw [World.cell?_setCell_other _ _ _ _ (by simp <;> omega), World.cell?_drewN, HSS.out m hm1 hm2, seen_next HPK.out, show ((m : Int) == (n : Int)) = false by simp; omega, Bool.or_false]
              · rw [hcon] at hseen
                have HC := Lib.hid hcon
                clear hcon
                go_wp2
                go_quiet (fail)
                go_wp2_with (go_at_call 32; refine (in_any _ _ _ _).mono ?_; rintro e w2 ⟨rfl, rfl⟩)
                go_ret
                exact ⟨(congrArg (fun b => Ending.returned (.bool b)) (all_no hlt (by rw [ok_ptr HPK.out hp0, HC.out]; simp))).symm, bel_drewN HB.out _⟩
      · have hk32 : k = 32 := by omega
        have hge : (32 : Int) ≤ (k : Int) := by omega
        go_wp2
        go_ret
        exact ⟨(congrArg (fun b => Ending.returned (.bool b)) (all_yes (by rw [← hk32]; exact hok))).symm, hbel⟩
  · subst h2; subst h1
    have hDD : D = true := hD
    clear hD
    go_enter Try.func23, Try.ntmps23
    go_wp2_with (first
      | (go_at_call 32; refine (in_any _ _ _ _).mono ?_; rintro e w2 ⟨rfl, rfl⟩)
      | ((with_reducible show wpList _ _ _ (⟨some 59, _, _, _, _, _⟩ :: _) _ _); refine wpList_val rfl (.agg zeros44) _ (exec_build44 _ _ _ rfl) ?_)
      | ((with_reducible show wpList _ _ _ (⟨some 4, _, _, _, _, _⟩ :: _) _ _); refine wpList_val rfl _ _ (exec_alloc44 _ _ _ rfl) ?_))
    go_loopw [60] (fun j wr => ∃ k : Nat, k ≤ 32 ∧ j = .int .i64 (k : Int) ∧ (∀ i, i < k → okAt D s0 ps i = true) ∧ (∀ i v, (w.alloc (.cells (ints xs) 24)).cell? ⟨w.heap.size, i, none⟩ = some v → wr.cell? ⟨w.heap.size, i, none⟩ = some v)
        ∧ (∀ n : Nat, 1 ≤ n → n < 1024 → wr.cell? ⟨w.heap.size + 1, n, none⟩ = some (.bool ((ps.take k).contains (n : Int)))) ∧ (∀ n : Nat, wr.frozen? ⟨w.heap.size + 1, n, none⟩ = false) ∧ Below w.heap.size w wr)
      (fun j _ => 32 - (intOf j).toNat)
    case atStart => exact ⟨0, by omega, rfl, by intro i hi; omega, HWx.out, by intro n h1 h2; rw [HS.out n h2]; rfl, hfz0, HWb.out⟩
    case round =>
      obtain ⟨k, hk, rfl, hok, hx, hs, hfz, hbel⟩ := hrel
      by_cases hlt : k < 32
      · have hltI : (k : Int) < 32 := by omega
        obtain ⟨p, hp⟩ : ∃ p, ps[k]? = some p := ⟨ps[k], List.getElem?_eq_getElem (by omega)⟩
        have hwr : IntKind.i64.wrap ((k : Int) * 128) = (k : Int) * 128 := IntWalk.i64_in _ (by omega)
        have hcs := hx 1 _ hc1
        have hcpk := hx (5 + k) _ (HP.out k p hp)
        have HX := Lib.hid hx
        have HSS := Lib.hid hs
        have HOK := Lib.hid hok
        have HB := Lib.hid hbel
        have HPK := Lib.hid hp
        have HD := Lib.hid hDD
        clear hx hs hok hbel hp hDD hc0 hc1 hc2 hc3 hc4 e1 e2 e3 e4 e5 hstore
        by_cases hp0 : p = 0
        · subst hp0
          by_cases hsz : s0 ≤ (k : Int) * 128
          all_goals
            go_wp2
            go_quiet (fail)
            go_wp2
            all_goals first
            | (rename_i hbad; simp at hbad; exfalso; omega)
            | (refine ⟨⟨k + 1, by omega, by simp, ok_next HOK.out (by rw [ok_zero HPK.out, HD.out]; simp <;> omega), HX.out, ?_, hfz, bel_drewN HB.out _⟩, by simp [intOf]; omega⟩
               intro n hn1 hn2
               rw [seen_next HPK.out, World.cell?_drewN, HSS.out n hn1 hn2, show ((n : Int) == 0) = false by simp; omega, Bool.or_false])
            | (go_ret
               exact ⟨(congrArg (fun b => Ending.returned (.bool b)) (all_no hlt (by rw [ok_zero HPK.out, HD.out]; simp; omega))).symm, bel_drewN HB.out _⟩)
        · by_cases hsz : s0 ≤ (k : Int) * 128
          · go_wp2
            go_quiet (fail)
            go_wp2
            go_ret
            exact ⟨(congrArg (fun b => Ending.returned (.bool b)) (all_no hlt (by rw [ok_ptr HPK.out hp0]; simp; omega))).symm, bel_drewN HB.out _⟩
          · cases hin : inB p 74 1023
            · go_wp2
              go_quiet (fail)
              go_wp2_with (go_at_call 32; refine (in_any _ _ _ _).mono ?_; rintro e w2 ⟨rfl, rfl⟩)
              go_ret
              exact ⟨(congrArg (fun b => Ending.returned (.bool b)) (all_no hlt (by rw [ok_ptr HPK.out hp0, hin]; simp))).symm, bel_drewN HB.out _⟩
            · have hr2 : 74 ≤ p ∧ p ≤ 1023 := by simpa [inB] using hin
              obtain ⟨n, rfl⟩ : ∃ n : Nat, p = (n : Int) := ⟨p.toNat, by omega⟩
              have hn1 : 74 ≤ (n : Int) := hr2.1
              have hn2 : (n : Int) ≤ 1023 := hr2.2
              have hseen := HSS.out n (by omega) (by omega)
              have hfzn := hfz n
              cases hcon : (ps.take k).contains (n : Int)
              · rw [hcon] at hseen
                have HC := Lib.hid hcon
                clear hcon
                go_wp2
                go_quiet (fail)
                go_wp2_with (go_at_call 32; refine (in_any _ _ _ _).mono ?_; rintro e w2 ⟨rfl, rfl⟩)
                refine ⟨⟨k + 1, by omega, by simp, ok_next HOK.out (by rw [ok_ptr HPK.out hp0, hin, HC.out]; simp; omega), ?_, ?_, (fun m => (World.frozen?_setCell _ _ _ _).trans (hfz m)), (bel_drewN HB.out _).setCell (p := ⟨w.heap.size + 1, n, none⟩) (by show w.heap.size ≤ w.heap.size + 1; omega) _⟩, by simp [intOf]; omega⟩
                · intro i v h
                  rw [World.cell?_setCell_other _ _ _ _ (by simp)]
                  exact HX.out i v h
                · intro m hm1 hm2
                  by_cases hm : m = n
                  · subst hm
                    rw [World.cell?_setCell_same' _ _ _ (by rw [World.cell?_drewN, hseen]; rfl), seen_next HPK.out]
                    simp
                  · rw [World.cell?_setCell_other _ _ _ _ (by simp <;> omega), World.cell?_drewN, HSS.out m hm1 hm2, seen_next HPK.out, show ((m : Int) == (n : Int)) = false by simp; omega, Bool.or_false]
              · rw [hcon] at hseen
                have HC := Lib.hid hcon
                clear hcon
                go_wp2
                go_quiet (fail)
                go_wp2_with (go_at_call 32; refine (in_any _ _ _ _).mono ?_; rintro e w2 ⟨rfl, rfl⟩)
                go_ret
                exact ⟨(congrArg (fun b => Ending.returned (.bool b)) (all_no hlt (by rw [ok_ptr HPK.out hp0, HC.out]; simp))).symm, bel_drewN HB.out _⟩
      · have hk32 : k = 32 := by omega
        have hge : (32 : Int) ≤ (k : Int) := by omega
        go_wp2
        go_ret
        exact ⟨(congrArg (fun b => Ending.returned (.bool b)) (all_yes (by rw [← hk32]; exact hok))).symm, hbel⟩
end Go.Proofs.Ytgfhepfikphliaa.In
