/-
  'DirUndoes' walked: a name that comes, and goes again, leaves all as it was.
-/
import Derived.Test.YtifbbbphoponcaaDir13
import Derived.Test.YtifbbbphoponcaaRely
namespace Go.Proofs.Ytifbbbphoponcaa.Dr
open Go.RowKit Wd Wi We
set_option linter.unusedVariables false
set_option linter.unusedSimpArgs false
theorem addV_len (l : List En) (x : En) : (addV l x).1.length ≤ l.length + 1 := by
  unfold addV
  split
  · simp
  · split
    · simp
    · split
      · simp
      · have := pos_le l x.1
        simp [ins]
        omega
theorem remV_len (l : List En) (s : ByteArray) : (remV l s).1.length ≤ l.length := by
  unfold remV
  split
  · simp [del]
    omega
  · simp
theorem ins_at {l : List En} (x : En) : (ins l x)[pos l x.1]? = some x := by
  have h1 : (l.take (pos l x.1)).length = pos l x.1 := by have := pos_le l x.1; rw [List.length_take]; omega
  unfold ins
  rw [List.getElem?_append_right (by omega), h1, Nat.sub_self]
  rfl
theorem ins_srt {l : List En} (hs : Srt l) {x : En} (hh : has l x.1 = false) : Srt (ins l x) := by
  have hlo : ∀ y ∈ l.take (pos l x.1), lt y.1 x.1 = true := fun y hy => by
    obtain ⟨i, hi⟩ := List.getElem?_of_mem hy
    rw [List.getElem?_take] at hi
    split at hi
    · rename_i h
      rw [pos_spec hs x.1 i y hi]
      exact decide_eq_true h
    · cases hi
  have hhi : ∀ y ∈ l.drop (pos l x.1), lt x.1 y.1 = true := fun y hy => by
    obtain ⟨i, hi⟩ := List.getElem?_of_mem hy
    rw [List.getElem?_drop] at hi
    have h1 := pos_spec hs x.1 _ y hi
    rw [decide_eq_false (by omega)] at h1
    cases h2 : lt x.1 y.1 with
    | true => rfl
    | false =>
      have := lt_total h1 h2
      have h3 := List.any_eq_false.1 hh y (List.mem_of_getElem? hi)
      rw [eqS_iff.2 this] at h3
      exact absurd rfl h3
  unfold ins Srt
  rw [List.pairwise_append]
  refine ⟨hs.sublist (List.take_sublist _ _), List.pairwise_cons.2 ⟨hhi, hs.sublist (List.drop_sublist _ _)⟩, fun a ha b hb => ?_⟩
  rcases List.mem_cons.1 hb with rfl | hb
  · exact hlo a ha
  · exact lt_trans (hlo a ha) (hhi b hb)
theorem ins_mem {l : List En} {x y : En} (h : y ∈ ins l x) : y = x ∨ y ∈ l := by
  unfold ins at h
  rcases List.mem_append.1 h with h | h
  · exact .inr (List.mem_of_mem_take h)
  · rcases List.mem_cons.1 h with h | h
    · exact .inl h
    · exact .inr (List.mem_of_mem_drop h)
theorem ins_len (l : List En) (x : En) : (ins l x).length = l.length + 1 := by
  have := pos_le l x.1
  simp [ins]
  omega
theorem del_ins {l : List En} (hs : Srt l) {x : En} (hh : has l x.1 = false) : del (ins l x) x.1 = l := by
  have hp := pos_at (ins_srt hs hh) (ins_at (l := l) x)
  have h1 : (l.take (pos l x.1)).length = pos l x.1 := by have := pos_le l x.1; rw [List.length_take]; omega
  unfold del
  rw [hp]
  unfold ins
  rw [List.take_left' h1, List.drop_append, h1, List.drop_of_length_le (by omega)]
  simp
theorem self_find : ∀ {l : List En}, Srt l → ∀ {x : En}, x ∈ l → findV l x.1 = (x.2, true)
  | [], _, x, h => by simp at h
  | y :: l, hs, x, h => by
    unfold findV
    rcases List.mem_cons.1 h with rfl | h
    · rw [if_pos rfl]
    · have hlt := (List.pairwise_cons.1 hs).1 x h
      have hne : y.1 ≠ x.1 := fun e => by
        rw [e, lt_irrefl] at hlt
        cases hlt
      rw [if_neg hne, self_find (List.pairwise_cons.1 hs).2 h]
theorem add_cases (l : List En) (x : En) : (∃ z, addV l x = ([], z) ∧ 0 < z) ∨ (addV l x = (ins l x, 0) ∧ mayB x = true ∧ has l x.1 = false ∧ l.length < 64) := by
  unfold addV
  cases hm : mayB x
  · exact .inl ⟨1, rfl, by decide⟩
  · cases hh : has l x.1
    · by_cases h : 64 ≤ l.length
      · exact .inl ⟨5, by simp [h], by decide⟩
      · exact .inr ⟨by simp [h], rfl, rfl, by omega⟩
    · exact .inl ⟨6, by simp, by decide⟩
def TupE (vl : List En) (vz : Int) (u : Value) (w : World) : Prop := ∃ A c, u = .tuple #[.slice A vl.length c, .int .i64 vz] ∧ Sl w w.heap.size 2 A vl.length (ecs vl) ∧ vl.length ≤ c
theorem TupE.kept {vl : List En} {vz : Int} {u : Value} {w w' : World} (h : TupE vl vz u w) (hk : Kept w w') : TupE vl vz u w' := by
  obtain ⟨A, c, e, h1, h2⟩ := h
  exact ⟨A, c, e, h1.on (Nat.le_refl _) hk, h2⟩
def SliE (vl : List En) (u : Value) (w : World) : Prop := ∃ A c, u = .slice A vl.length c ∧ Sl w w.heap.size 2 A vl.length (ecs vl) ∧ vl.length ≤ c
theorem SliE.kept {vl : List En} {u : Value} {w w' : World} (h : SliE vl u w) (hk : Kept w w') : SliE vl u w' := by
  obtain ⟨A, c, e, h1, h2⟩ := h
  exact ⟨A, c, e, h1.on (Nat.le_refl _) hk, h2⟩
set_option maxRecDepth 100000 in
set_option maxHeartbeats 3200000 in
theorem undoes_walk (A : Option Addr) (l : List En) (c : Nat) (x : En) (w : World) (hs : Sl w w.heap.size 2 A l.length (ecs l)) (hc : l.length ≤ c) (hk : l.length ≤ 17592186044416) (hg : ∀ x ∈ l, goodE x) (hx : goodE x) :
    Calls Try.prog 8 #[.slice A l.length c, ev x] w fun e w' => e = .returned (.bool true) ∧ Below w.heap.size w w' := by
  have FEW := Lib.hid (fun w hs => few_any A l c w hs hg hk)
  have RCK := Lib.hid (fun w hs => rcheck_any A l c w hs hg hk)
  have HS := Lib.hid hs
  have HG := Lib.hid hg
  have HX := Lib.hid hx
  have HW0 := Lib.hid (range_new w x 40)
  have hn0 : (0 : Int) ≤ (x.1.size : Int) := by omega
  have hn1 : (x.1.size : Int) ≤ 9223372036854775807 := by have := hx.1; omega
  have HBA : Hid (Below w.heap.size w (w.alloc (Obj.cells #[Value.string x.1, Value.int .i64 x.2] 40))) := Lib.hid ((Below.refl _ _).alloc (Nat.le_refl _) _)
  have HSA := Lib.hid (hs.on (Nat.le_refl _) HBA.out)
  unfold ev
  cases hf : fewB l
  · rw [hf] at FEW
    clear hf hs hg hx
    go_enter Try.func8, Try.ntmps8
    go_wp2_with fail
    refine (FEW.out _ HSA.out).mono ?_
    rintro e w' ⟨rfl, rfl⟩
    go_wp2_with fail
    refine (awake_any _).mono ?_
    rintro e w9 ⟨rfl, hb9⟩
    have HB9 := Lib.hid (HBA.out.trans (Below.mono hb9 HBA.out.size))
    go_wp2_with fail
    go_ret
    exact ⟨rfl, HB9.out⟩
  · have hl80 : l.length ≤ 80 := by
      unfold fewB at hf
      simp only [Bool.and_eq_true, decide_eq_true_eq] at hf
      exact hf.1
    rw [hf] at FEW
    clear hf hs hg hx
    cases hch : checkB l
    · rw [hch] at RCK
      clear hch
      go_enter Try.func8, Try.ntmps8
      go_wp2_with fail
      refine (FEW.out _ HSA.out).mono ?_
      rintro e w' ⟨rfl, rfl⟩
      go_wp2_with fail
      refine (RCK.out _ HSA.out).mono ?_
      rintro e w1 ⟨rfl, hb1⟩
      have HB1 := Lib.hid (HBA.out.trans (Below.mono hb1 HBA.out.size))
      have HR1 := Lib.hid (range_keep HW0.out (hb1.block w.heap.size (by simp)))
      have hrn1 := range_name HR1.out
      have hre1 := range_ino HR1.out
      clear hb1
      go_wp2_with fail
      refine (awake_any _).mono ?_
      rintro e w9 ⟨rfl, hb9⟩
      have HB9 := Lib.hid (HB1.out.trans (Below.mono hb9 HB1.out.size))
      go_wp2_with fail
      go_ret
      exact ⟨rfl, HB9.out⟩
    · have HSRT := Lib.hid (okTo_srt (check_parts hch).1)
      have HMAY := Lib.hid (okTo_may (check_parts hch).1)
      have hl64 : l.length ≤ 64 := (check_parts hch).2
      rw [hch] at RCK
      clear hch
      by_cases hbig : 300 < x.1.size
      · have hbigI : (300 : Int) < (x.1.size : Int) := by omega
        go_enter Try.func8, Try.ntmps8
        go_wp2_with fail
        refine (FEW.out _ HSA.out).mono ?_
        rintro e w' ⟨rfl, rfl⟩
        go_wp2_with fail
        refine (RCK.out _ HSA.out).mono ?_
        rintro e w1 ⟨rfl, hb1⟩
        have HB1 := Lib.hid (HBA.out.trans (Below.mono hb1 HBA.out.size))
        have HR1 := Lib.hid (range_keep HW0.out (hb1.block w.heap.size (by simp)))
        have hrn1 := range_name HR1.out
        have hre1 := range_ino HR1.out
        clear hb1
        go_wp2_with fail
        refine (awake_any _).mono ?_
        rintro e w9 ⟨rfl, hb9⟩
        have HB9 := Lib.hid (HB1.out.trans (Below.mono hb9 HB1.out.size))
        go_wp2_with fail
        go_ret
        exact ⟨rfl, HB9.out⟩
      · have hbigI : (x.1.size : Int) ≤ 300 := by omega
        rcases add_cases l x with ⟨vz, hv, hvz⟩ | ⟨hv, hm, hh, h64⟩
        · have ADD := Lib.hid (fun A c w hs hc => add_any A l c x w hs hc HSRT.out (by omega) HX.out)
          have ENT := Lib.hid (fun w hs => entries_any A l c w hs (by omega))
          obtain ⟨vl, hvl⟩ : ∃ vl : List En, vl = [] := ⟨_, rfl⟩
          have hv0 : (vl.length : Int) = 0 := by rw [hvl]; rfl
          rw [hv, ← hvl] at ADD
          unfold ResA ev at ADD
          dsimp only at ADD
          clear hv hvl
          go_enter Try.func8, Try.ntmps8
          go_wp2_with fail
          refine (FEW.out _ HSA.out).mono ?_
          rintro e w' ⟨rfl, rfl⟩
          go_wp2_with fail
          refine (RCK.out _ HSA.out).mono ?_
          rintro e w1 ⟨rfl, hb1⟩
          have HB1 := Lib.hid (HBA.out.trans (Below.mono hb1 HBA.out.size))
          have HR1 := Lib.hid (range_keep HW0.out (hb1.block w.heap.size (by simp)))
          have hrn1 := range_name HR1.out
          have hre1 := range_ino HR1.out
          clear hb1
          go_wp2_with fail
          have HSL := Lib.hid (HS.out.on (Nat.le_refl _) HB1.out)
          have HLT : Hid (w.heap.size < w1.heap.size) := Lib.hid (World.block_lt_of_cell? _ _ (range_name HR1.out))
          refine wp_region_rely (by kernel_rfl) (fun d u w' => match d with
            | 5 => SliE vl u w'
            | 6 => u = (.int .i64 vz : Value)
            | 28 => TupE vl vz u w'
            | 29 => u = (.slice A l.length c : Value)
            | 30 => SliE l u w'
            | 31 => u = (.agg #[.string x.1, .int .i64 x.2] : Value)
            | 32 => TupE vl vz u w'
            | 33 => SliE vl u w'
            | 34 => u = (.int .i64 vz : Value)
            | _ => True) 90 rfl (by decide +kernel) [5, 6] ?_ ?_
          · refine AllSteps.cons (Step.move _ rfl rfl fun a w' hl => hl.old 0 rfl) ?_
            refine AllSteps.cons (Step.plain rfl fun a w' K hl hK => ?_) ?_
            · obtain ⟨_, _, _, h29⟩ := hl.dep 0 29 rfl rfl
              replace h29 : a.eval (.tmp 29) = _ := h29
              refine wp_call rfl Try.func12 rfl rfl #[.slice A l.length c] (by simp [h29]) ?_
              refine (ENT.out w' (HSL.out.on (Nat.le_refl _) hl.kept)).mono ?_
              rintro e w8 ⟨A2, c2, rfl, hs2, hc2, hm2, hb2⟩
              exact ⟨_, rfl, hK _ _ hb2 ⟨A2, c2, rfl, hs2, hc2⟩⟩
            refine AllSteps.cons (Step.plain rfl fun a w' K hl hK => ?_) ?_
            · have h3 : a.eval (.tmp 3) = (.pointer (some ⟨w.heap.size, 0, none⟩) : Value) := hl.old 3 rfl
              exact wp_load_ent _ rfl h3 (range_keep HR1.out (hl.kept.block w.heap.size HLT.out)) (hK _ _ (Kept.refl _) rfl)
            refine AllSteps.cons (Step.plain rfl fun a w' K hl hK => ?_) ?_
            · obtain ⟨_, w1, hk1, A2, c2, h30, hs2, hc2⟩ := hl.dep 1 30 rfl rfl
              obtain ⟨_, _, _, h31⟩ := hl.dep 2 31 rfl rfl
              replace h31 : a.eval (.tmp 31) = _ := h31
              refine wp_call rfl Try.func25 rfl rfl #[.slice A2 l.length c2, .agg #[.string x.1, .int .i64 x.2]] (by simp [h30, h31]) ?_
              refine (ADD.out _ _ w' (hs2.on (Nat.le_refl _) hk1) hc2).mono ?_
              rintro e w8 ⟨A3, c3, rfl, hs3, hc3, hm3, hb3⟩
              exact ⟨_, rfl, hK _ _ hb3 ⟨A3, c3, rfl, hs3, hc3⟩⟩
            refine AllSteps.cons (Step.move _ rfl rfl fun a w' hl => let ⟨_, _, hk, h⟩ := hl.dep 3 32 rfl rfl; TupE.kept h hk) ?_
            refine AllSteps.cons (Step.plain rfl fun a w' K hl hK => ?_) ?_
            · obtain ⟨_, w1, hk1, A3, c3, h28, hs3, hc3⟩ := hl.dep 4 28 rfl rfl
              refine wp_val (.slice A3 vl.length c3) ?_ (hK _ _ (Kept.refl _) ⟨A3, c3, rfl, hs3.on (Nat.le_refl _) hk1, hc3⟩)
              clear hl hK
              generalize a.eval = ρ at *
              simp [execOp, go_sem, h28]
            refine AllSteps.cons (Step.plain rfl fun a w' K hl hK => ?_) ?_
            · obtain ⟨_, w1, hk1, A3, c3, h28, hs3, hc3⟩ := hl.dep 4 28 rfl rfl
              refine wp_val (.int .i64 vz) ?_ (hK _ _ (Kept.refl _) rfl)
              clear hl hK
              generalize a.eval = ρ at *
              simp [execOp, go_sem, h28]
            refine AllSteps.cons (Step.assign _ rfl rfl fun a w' hl => let ⟨_, _, hk, h⟩ := hl.dep 5 33 rfl rfl; SliE.kept h hk) ?_
            refine AllSteps.cons (Step.assign _ rfl rfl fun a w' hl => let ⟨_, _, _, h⟩ := hl.dep 6 34 rfl rfl; h) ?_
            exact AllSteps.nil
          · intro f w9 hk9 hf
            obtain ⟨w10, hk10, A3, c3, h5, hs3, hc3⟩ := hf 5 rfl rfl
            obtain ⟨_, _, h6⟩ := hf 6 rfl rfl
            replace h6 : f 6 = .int .i64 vz := h6
            simp only [fill, dsts, List.filterMap_cons, List.filterMap_nil, List.foldl_cons, List.foldl_nil, Act.put, h5, h6, List.setIfInBounds_toArray, List.set_cons_succ, List.set_cons_zero]
            have HV1 := Lib.hid (hs3.on (Nat.le_refl _) hk10)
            have HR9 := Lib.hid (range_keep HR1.out (hk9.block w.heap.size HLT.out))
            have HB9 := Lib.hid (HB1.out.trans (Below.mono hk9 HB1.out.size))
            have HL9 := Lib.hid (HSL.out.on (Nat.le_refl _) hk9)
            have hrn9 := range_name HR9.out
            have hre9 := range_ino HR9.out
            clear hf hk9 hk10 hs3 h5 h6 hrn1 hre1
            go_wp2_with fail
            refine (awake_any _).mono ?_
            rintro e wa ⟨rfl, hba⟩
            have HBA9 := Lib.hid (HB9.out.trans (Below.mono hba HB9.out.size))
            go_wp2_with fail
            go_ret
            exact ⟨rfl, HBA9.out⟩
        · have ADD := Lib.hid (fun A c w hs hc => add_any A l c x w hs hc HSRT.out (by omega) HX.out)
          have ENT := Lib.hid (fun w hs => entries_any A l c w hs (by omega))
          have hsI := ins_srt HSRT.out hh
          have hmI : ∀ y ∈ ins l x, mayB y = true := fun y hy => by
            rcases ins_mem hy with rfl | hy
            · exact hm
            · exact HMAY.out y hy
          have hgI : ∀ y ∈ ins l x, goodE y := fun y hy => by
            rcases ins_mem hy with rfl | hy
            · exact HX.out
            · exact HG.out y hy
          have hxm : x ∈ ins l x := List.mem_of_getElem? (ins_at (l := l) x)
          have hlI := ins_len l x
          have hfI := self_find hsI hxm
          have hhI : has (ins l x) x.1 = true := has_mem (ins_at (l := l) x)
          have haI : addV (ins l x) x = ([], 6) := by unfold addV; rw [hm, hhI]; rfl
          have hrI : remV (ins l x) x.1 = (l, 0) := by unfold remV; rw [hhI, del_ins HSRT.out hh]; rfl
          have hcI : checkB (ins l x) = true := by unfold checkB; rw [okTo_of hsI hmI, decide_eq_true (by omega)]; rfl
          rw [hv] at ADD
          generalize ins l x = vl at *
          have FND := Lib.hid (fun A c w hs => find_any A vl c x.1 w hs (by omega))
          have ADD2 := Lib.hid (fun A c w hs hc => add_any A vl c x w hs hc hsI (by omega) HX.out)
          have REM2 := Lib.hid (fun A c w hs hc => remove_any A vl c x.1 w hs hc hsI (by omega))
          have CHK := Lib.hid (fun A c w hs => check_any A vl c w hs hgI (by omega))
          rw [hfI] at FND
          rw [haI] at ADD2
          rw [hrI] at REM2
          rw [hcI] at CHK
          unfold ResA ev at ADD ADD2
          unfold ResA at REM2
          dsimp only at FND ADD ADD2 REM2
          have hla : vl.length ≤ 64 := by omega
          clear hv hsI hmI hgI hxm hlI hfI hhI haI hrI hcI hm hh
          go_enter Try.func8, Try.ntmps8
          go_wp2_with fail
          refine (FEW.out _ HSA.out).mono ?_
          rintro e w' ⟨rfl, rfl⟩
          go_wp2_with fail
          refine (RCK.out _ HSA.out).mono ?_
          rintro e w1 ⟨rfl, hb1⟩
          have HB1 := Lib.hid (HBA.out.trans (Below.mono hb1 HBA.out.size))
          have HR1 := Lib.hid (range_keep HW0.out (hb1.block w.heap.size (by simp)))
          have hrn1 := range_name HR1.out
          have hre1 := range_ino HR1.out
          clear hb1
          go_wp2_with fail
          have HSL := Lib.hid (HS.out.on (Nat.le_refl _) HB1.out)
          have HLT : Hid (w.heap.size < w1.heap.size) := Lib.hid (World.block_lt_of_cell? _ _ (range_name HR1.out))
          refine wp_region_rely (by kernel_rfl) (fun d u w' => match d with
            | 5 => SliE vl u w'
            | 6 => u = (.int .i64 0 : Value)
            | 28 => TupE vl 0 u w'
            | 29 => u = (.slice A l.length c : Value)
            | 30 => SliE l u w'
            | 31 => u = (.agg #[.string x.1, .int .i64 x.2] : Value)
            | 32 => TupE vl 0 u w'
            | 33 => SliE vl u w'
            | 34 => u = (.int .i64 0 : Value)
            | _ => True) 90 rfl (by decide +kernel) [5, 6] ?_ ?_
          · refine AllSteps.cons (Step.move _ rfl rfl fun a w' hl => hl.old 0 rfl) ?_
            refine AllSteps.cons (Step.plain rfl fun a w' K hl hK => ?_) ?_
            · obtain ⟨_, _, _, h29⟩ := hl.dep 0 29 rfl rfl
              replace h29 : a.eval (.tmp 29) = _ := h29
              refine wp_call rfl Try.func12 rfl rfl #[.slice A l.length c] (by simp [h29]) ?_
              refine (ENT.out w' (HSL.out.on (Nat.le_refl _) hl.kept)).mono ?_
              rintro e w8 ⟨A2, c2, rfl, hs2, hc2, hm2, hb2⟩
              exact ⟨_, rfl, hK _ _ hb2 ⟨A2, c2, rfl, hs2, hc2⟩⟩
            refine AllSteps.cons (Step.plain rfl fun a w' K hl hK => ?_) ?_
            · have h3 : a.eval (.tmp 3) = (.pointer (some ⟨w.heap.size, 0, none⟩) : Value) := hl.old 3 rfl
              exact wp_load_ent _ rfl h3 (range_keep HR1.out (hl.kept.block w.heap.size HLT.out)) (hK _ _ (Kept.refl _) rfl)
            refine AllSteps.cons (Step.plain rfl fun a w' K hl hK => ?_) ?_
            · obtain ⟨_, w1, hk1, A2, c2, h30, hs2, hc2⟩ := hl.dep 1 30 rfl rfl
              obtain ⟨_, _, _, h31⟩ := hl.dep 2 31 rfl rfl
              replace h31 : a.eval (.tmp 31) = _ := h31
              refine wp_call rfl Try.func25 rfl rfl #[.slice A2 l.length c2, .agg #[.string x.1, .int .i64 x.2]] (by simp [h30, h31]) ?_
              refine (ADD.out _ _ w' (hs2.on (Nat.le_refl _) hk1) hc2).mono ?_
              rintro e w8 ⟨A3, c3, rfl, hs3, hc3, hm3, hb3⟩
              exact ⟨_, rfl, hK _ _ hb3 ⟨A3, c3, rfl, hs3, hc3⟩⟩
            refine AllSteps.cons (Step.move _ rfl rfl fun a w' hl => let ⟨_, _, hk, h⟩ := hl.dep 3 32 rfl rfl; TupE.kept h hk) ?_
            refine AllSteps.cons (Step.plain rfl fun a w' K hl hK => ?_) ?_
            · obtain ⟨_, w1, hk1, A3, c3, h28, hs3, hc3⟩ := hl.dep 4 28 rfl rfl
              refine wp_val (.slice A3 vl.length c3) ?_ (hK _ _ (Kept.refl _) ⟨A3, c3, rfl, hs3.on (Nat.le_refl _) hk1, hc3⟩)
              clear hl hK
              generalize a.eval = ρ at *
              simp [execOp, go_sem, h28]
            refine AllSteps.cons (Step.plain rfl fun a w' K hl hK => ?_) ?_
            · obtain ⟨_, w1, hk1, A3, c3, h28, hs3, hc3⟩ := hl.dep 4 28 rfl rfl
              refine wp_val (.int .i64 0) ?_ (hK _ _ (Kept.refl _) rfl)
              clear hl hK
              generalize a.eval = ρ at *
              simp [execOp, go_sem, h28]
            refine AllSteps.cons (Step.assign _ rfl rfl fun a w' hl => let ⟨_, _, hk, h⟩ := hl.dep 5 33 rfl rfl; SliE.kept h hk) ?_
            refine AllSteps.cons (Step.assign _ rfl rfl fun a w' hl => let ⟨_, _, _, h⟩ := hl.dep 6 34 rfl rfl; h) ?_
            exact AllSteps.nil
          · intro f w9 hk9 hf
            obtain ⟨w10, hk10, A3, c3, h5, hs3, hc3⟩ := hf 5 rfl rfl
            obtain ⟨_, _, h6⟩ := hf 6 rfl rfl
            replace h6 : f 6 = .int .i64 0 := h6
            simp only [fill, dsts, List.filterMap_cons, List.filterMap_nil, List.foldl_cons, List.foldl_nil, Act.put, h5, h6, List.setIfInBounds_toArray, List.set_cons_succ, List.set_cons_zero]
            have HV1 := Lib.hid (hs3.on (Nat.le_refl _) hk10)
            have HR9 := Lib.hid (range_keep HR1.out (hk9.block w.heap.size HLT.out))
            have HB9 := Lib.hid (HB1.out.trans (Below.mono hk9 HB1.out.size))
            have HL9 := Lib.hid (HSL.out.on (Nat.le_refl _) hk9)
            have hrn9 := range_name HR9.out
            have hre9 := range_ino HR9.out
            clear hf hk9 hk10 hs3 h5 h6 hrn1 hre1

            have HB0 := Lib.hid HB9.out
            go_wp2_with fail
            refine (FND.out _ _ _ HV1.out).mono ?_
            rintro e W1 ⟨rfl, hb1⟩
            have HRB1 := Lib.hid (range_keep HR9.out (hb1.block w.heap.size (World.block_lt_of_cell? _ _ (range_name HR9.out))))
            have hrn11 := range_name HRB1.out
            have hre11 := range_ino HRB1.out
            have L_1 := Lib.hid (HL9.out.on (Nat.le_refl _) hb1)
            have V_1 := Lib.hid (HV1.out.on (Nat.le_refl _) hb1)
            have HB1 := Lib.hid (HB0.out.trans (Below.mono hb1 HB0.out.size))
            clear hb1
            clear hrn9 hre9 HR9
            go_wp2_with ((with_reducible show wpList _ _ _ (⟨some 52, _, _, _, _, _⟩ :: _) _ _); refine wpList_load_ent rfl _ rfl rfl HRB1.out ?_)
            refine (ADD2.out _ _ _ V_1.out hc3).mono ?_
            rintro e W2 ⟨A4, c4, rfl, hs4, hc4, hm4, hb2⟩
            have HRB2 := Lib.hid (range_keep HRB1.out (hb2.block w.heap.size (World.block_lt_of_cell? _ _ (range_name HRB1.out))))
            have hrn12 := range_name HRB2.out
            have hre12 := range_ino HRB2.out
            have L_2 := Lib.hid (L_1.out.on (Nat.le_refl _) hb2)
            have V_2 := Lib.hid (V_1.out.on (Nat.le_refl _) hb2)
            have HB2 := Lib.hid (HB1.out.trans (Below.mono hb2 HB1.out.size))
            clear hb2
            clear hrn11 hre11 HRB1
            go_wp2_with fail
            refine (REM2.out _ _ _ V_2.out hc3).mono ?_
            rintro e W3 ⟨A5, c5, rfl, hs5, hc5, hm5, hb3⟩
            have HRB3 := Lib.hid (range_keep HRB2.out (hb3.block w.heap.size (World.block_lt_of_cell? _ _ (range_name HRB2.out))))
            have hrn13 := range_name HRB3.out
            have hre13 := range_ino HRB3.out
            have U_3 := Lib.hid hs5
            have L_3 := Lib.hid (L_2.out.on (Nat.le_refl _) hb3)
            have V_3 := Lib.hid (V_2.out.on (Nat.le_refl _) hb3)
            have HB3 := Lib.hid (HB2.out.trans (Below.mono hb3 HB2.out.size))
            clear hb3
            clear hrn12 hre12 HRB2
            go_wp2_with fail
            refine (same_any _ _ l _ _ _ U_3.out L_3.out hk).mono ?_
            rintro e W4 ⟨rfl, hb4⟩
            have HRB4 := Lib.hid (range_keep HRB3.out (hb4.block w.heap.size (World.block_lt_of_cell? _ _ (range_name HRB3.out))))
            have hrn14 := range_name HRB4.out
            have hre14 := range_ino HRB4.out
            have L_4 := Lib.hid (L_3.out.on (Nat.le_refl _) hb4)
            have V_4 := Lib.hid (V_3.out.on (Nat.le_refl _) hb4)
            have U_4 := Lib.hid (U_3.out.on (Nat.le_refl _) hb4)
            have HB4 := Lib.hid (HB3.out.trans (Below.mono hb4 HB3.out.size))
            clear hb4
            clear hrn13 hre13 HRB3
            go_wp2_with fail
            refine (CHK.out _ _ _ V_4.out).mono ?_
            rintro e W5 ⟨rfl, hb5⟩
            have HRB5 := Lib.hid (range_keep HRB4.out (hb5.block w.heap.size (World.block_lt_of_cell? _ _ (range_name HRB4.out))))
            have hrn15 := range_name HRB5.out
            have hre15 := range_ino HRB5.out
            have L_5 := Lib.hid (L_4.out.on (Nat.le_refl _) hb5)
            have V_5 := Lib.hid (V_4.out.on (Nat.le_refl _) hb5)
            have U_5 := Lib.hid (U_4.out.on (Nat.le_refl _) hb5)
            have HB5 := Lib.hid (HB4.out.trans (Below.mono hb5 HB4.out.size))
            clear hb5
            clear hrn14 hre14 HRB4
            go_wp2_with fail
            refine (awake_any _).mono ?_
            rintro e W6 ⟨rfl, hb6⟩
            have HRB6 := Lib.hid (range_keep HRB5.out (hb6.block w.heap.size (World.block_lt_of_cell? _ _ (range_name HRB5.out))))
            have hrn16 := range_name HRB6.out
            have hre16 := range_ino HRB6.out
            have L_6 := Lib.hid (L_5.out.on (Nat.le_refl _) hb6)
            have V_6 := Lib.hid (V_5.out.on (Nat.le_refl _) hb6)
            have U_6 := Lib.hid (U_5.out.on (Nat.le_refl _) hb6)
            have HB6 := Lib.hid (HB5.out.trans (Below.mono hb6 HB5.out.size))
            clear hb6
            clear hrn15 hre15 HRB5
            go_wp2_with fail
            go_ret
            exact ⟨rfl, HB6.out⟩
end Go.Proofs.Ytifbbbphoponcaa.Dr
