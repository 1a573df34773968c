/-
  'WirePuts' walked: any number, any text behind any bytes; the room behind them stays.
-/
import Derived.Test.YtbjfjbndekcboaaWire7
import Derived.Test.YtbjfjbndekcboaaRely
namespace Go.Proofs.Ytbjfjbndekcboaa.Wi
open Go.RowKit Wd
set_option linter.unusedVariables false
attribute [local go_sem] str_toList str_append str_size

def ResQ (w : World) (L : List UInt8) (b : Bool) (e : Ending) (w' : World) : Prop :=
  ∃ A c, e = .returned (.tuple #[.slice A L.length c, .bool b]) ∧ Sl w' w'.heap.size 1 A L.length (L.map bv) ∧ Kept w w'
def txtL (s : ByteArray) (k : Int) : List UInt8 := if 0 ≤ k ∧ k ≤ 255 ∧ (s.size : Int) ≤ k then txt s k.toNat else []
def txtK (s : ByteArray) (k : Int) : Bool := decide (0 ≤ k ∧ k ≤ 255 ∧ (s.size : Int) ≤ k)
theorem text_any (A : Option Addr) (l : List UInt8) (c : Nat) (s : ByteArray) (k : Int) (w : World) (hs : Sl w w.heap.size 1 A l.length (l.map bv)) (hc : l.length ≤ c) (hl : l.length + 256 ≤ 140737488355328) (hsz : s.size ≤ 9223372036854775807) :
    Calls Try.prog 10 #[.slice A l.length c, .string s, .int .i64 k] w (ResQ w (l ++ txtL s k) (txtK s k)) := by
  unfold txtL txtK
  by_cases h : 0 ≤ k ∧ k ≤ 255 ∧ (s.size : Int) ≤ k
  · rw [if_pos h, decide_eq_true h]
    refine (text_yes' A l c s k w hs hc hl h.1 h.2.1 h.2.2).mono ?_
    rintro e w1 ⟨A1, c1, rfl, ho, hb⟩
    exact ⟨A1, c1, rfl, Sl.own ho, hb⟩
  · rw [if_neg h, decide_eq_false h, List.append_nil]
    refine (text_no A l.length c s k w hsz (by omega)).mono ?_
    rintro e w1 ⟨rfl, rfl⟩
    exact ⟨A, c, rfl, hs, Kept.refl _⟩
theorem rtext_any (s : ByteArray) (k : Int) (w : World) (hsz : s.size ≤ 9223372036854775807) :
    Calls Try.prog 11 #[.string s, .int .i64 k] w (ResQ w (txtL s k) (txtK s k)) := by
  unfold txtL txtK
  by_cases h : 0 ≤ k ∧ k ≤ 255 ∧ (s.size : Int) ≤ k
  · rw [if_pos h, decide_eq_true h]
    refine (rtext_yes' s k w h.1 h.2.1 h.2.2).mono ?_
    rintro e w1 ⟨A1, c1, rfl, hs, _, _, hb⟩
    exact ⟨A1, c1, rfl, hs, hb⟩
  · rw [if_neg h, decide_eq_false h]
    refine (rtext_no s k w hsz (by omega)).mono ?_
    rintro e w1 ⟨rfl, rfl⟩
    exact ⟨none, 0, rfl, Sl.nil _, Kept.refl _⟩
theorem pad_any (A : Option Addr) (l : List UInt8) (c : Nat) (k : Int) (w : World) (hs : Sl w w.heap.size 1 A l.length (l.map bv)) (hc : l.length ≤ c) (hk : k ≤ 140737488355328) :
    Calls Try.prog 12 #[.slice A l.length c, .int .i64 k] w (ResQ w (l ++ List.replicate (k.toNat - l.length) 0) (decide ((l.length : Int) ≤ k))) := by
  by_cases h : (l.length : Int) ≤ k
  · rw [decide_eq_true h]
    refine (pad_yes A l c k w hs hc h hk).mono ?_
    rintro e w1 ⟨A1, c1, rfl, hs, _, _, hb⟩
    exact ⟨A1, c1, rfl, hs, hb⟩
  · rw [decide_eq_false h, show k.toNat - l.length = 0 by omega, List.replicate_zero, List.append_nil]
    refine (pad_no A l.length c k w (by omega)).mono ?_
    rintro e w1 ⟨rfl, rfl⟩
    exact ⟨A, c, rfl, hs, Kept.refl _⟩

set_option maxRecDepth 100000 in
set_option maxHeartbeats 1600000 in
theorem wirePuts_walk (A : Option Addr) (l : List UInt8) (c : Nat) (v n : Int) (s : ByteArray) (w : World) (hs : Sl w w.heap.size 1 A l.length (l.map bv)) (hc : l.length ≤ c) (hc2 : c ≤ 140737488351232)
    (hv : -9223372036854775808 ≤ v) (hv2 : v ≤ 9223372036854775807) (hn : -9223372036854775808 ≤ n) (hn2 : n ≤ 9223372036854775807) (hsz : s.size ≤ 140737488351232) :
    Calls Try.prog 3 #[.slice A l.length c, .int .i64 v, .int .i64 n, .string s] w fun e w' => e = .returned (.bool true) ∧ Below w.heap.size w w' := by
  obtain ⟨i0, hi, hz0, hz1, hz2⟩ := info_parts infoB
  have HS := Lib.hid hs
  clear hs
  go_enter Try.func3, Try.ntmps3
  go_wp2_with (first
    | (at_builtin; refine wpList_append_mine rfl _ (.tmp 16) _ _ rfl w.heap.size 5 i0 (.int .u8 0) 1 1 hz1 hz2 rfl (by decide) _ _ _ rfl Mine.nil _ l.length (l.map bv) rfl (Gives.slice Try.underlying22 hi hz0 (by rw [hz1]; exact HS.out) (bv_one l)) (by simp only [maxLen]; omega) (by omega) (Nat.le_refl _) ?_; intro A1 c1 w1 hm1 hg1 hb1 hat1 hown1; have hb10 := hb1.size; simp only [Nat.zero_add, List.nil_append] at hm1; have HM1 := Lib.hid hm1; clear hm1 hown1)
    | (at_builtin; refine wpList_append_mine rfl (.tmp 17) (.tmp 18) _ _ rfl w.heap.size 5 i0 (.int .u8 0) 1 1 hz1 hz2 rfl (by decide) _ _ _ rfl (HM1.out.alloc _) _ 1 [.int .u8 99] rfl (Gives.elem Try.underlying22 hi hz0 hz1 _ rfl) (by simp only [maxLen]; omega) (by omega) (by simp; omega) ?_; intro A2 c2 w2 hm2 hg2 hb2 hat2 hown2; have HO2 := Lib.hid (hown2 (.inl (by omega))); obtain ⟨g, rfl, hgB, hglt, hgc, hgm⟩ := own_form HO2.out (by omega); clear hm2 hown2 hat2; have hgcI : (l.length : Int) + 1 ≤ (c2 : Int) := by omega))
  have HC2 : Hid (Sl w2 w2.heap.size 1 (some ⟨g, 0, none⟩) l.length (l.map bv)) := by
    have h := Sl.own HO2.out
    refine ⟨by simp, fun _ => ⟨_, rfl, hglt, fun j u hu => ?_⟩⟩
    obtain ⟨ad, hA, _, hc⟩ := h.2 (by omega)
    injection hA with hA
    subst hA
    exact hc j u (by rw [List.getElem?_append_left (List.getElem?_eq_some_iff.1 hu).1]; exact hu)
  have hbw2 : Below w.heap.size w w2 := (hb1.alloc hb10 _).trans hb2
  have HB2 := Lib.hid (HS.out.on (Nat.le_refl _) hbw2)
  refine wp_region_rely (by kernel_rfl) (fun d u w' => match d with
    | 23 => u = .slice (some ⟨g, 0, none⟩) l.length c2
    | 24 => u = .int .i64 v
    | 25 => u = .int .i64 n
    | 26 => ∃ A c, u = .slice A (l ++ putB v (min n 8).toNat).length c ∧ Sl w' w'.heap.size 1 A (l ++ putB v (min n 8).toNat).length ((l ++ putB v (min n 8).toNat).map bv)
    | 27 => u = .string (str (l ++ putB v (min n 8).toNat))
    | 28 => u = .slice A l.length c
    | 29 => u = .string (str l)
    | 30 => u = .int .i64 v
    | 31 => u = .int .i64 n
    | 32 => ∃ A c, u = .slice A (putB v (min n 8).toNat).length c ∧ Sl w' w'.heap.size 1 A (putB v (min n 8).toNat).length ((putB v (min n 8).toNat).map bv)
    | 33 => u = .string (str (putB v (min n 8).toNat))
    | 34 => u = .string (str (l ++ putB v (min n 8).toNat))
    | 35 => u = .bool false
    | _ => True) 124 rfl (by decide +kernel) [35] ?_ ?_
  · refine AllSteps.cons (Step.move _ rfl rfl fun a w' hl => hl.old 9 rfl) ?_
    refine AllSteps.cons (Step.move _ rfl rfl fun a w' hl => hl.old 1 rfl) ?_
    refine AllSteps.cons (Step.move _ rfl rfl fun a w' hl => hl.old 2 rfl) ?_
    refine AllSteps.cons (Step.plain rfl fun a w' K hl hK => ?_) ?_
    · obtain ⟨_, _, _, h23⟩ := hl.dep 0 23 rfl rfl
      obtain ⟨_, _, _, h24⟩ := hl.dep 1 24 rfl rfl
      obtain ⟨_, _, _, h25⟩ := hl.dep 2 25 rfl rfl
      replace h23 : a.eval (.tmp 23) = _ := h23
      replace h24 : a.eval (.tmp 24) = _ := h24
      replace h25 : a.eval (.tmp 25) = _ := h25
      refine wp_call rfl Try.func8 rfl rfl #[.slice (some ⟨g, 0, none⟩) l.length c2, .int .i64 v, .int .i64 n] (by simp [h23, h24, h25]) ?_
      refine (put_any _ l c2 v n w' (HC2.out.kept (Nat.le_refl _) hl.kept) (by omega) (by omega) hv hv2 hn hn2).mono ?_
      rintro e w3 ⟨A3, c3, rfl, hs3, _, _, hb3⟩
      exact ⟨_, rfl, hK _ _ hb3 ⟨A3, c3, rfl, hs3⟩⟩
    refine AllSteps.cons (Step.plain rfl fun a w' K hl hK => ?_) ?_
    · obtain ⟨_, w1, hk1, A3, c3, h26, hs3⟩ := hl.dep 3 26 rfl rfl
      exact wp_conv rfl Try.underlying22 Try.underlying5 Try.underlying9 h26 (hs3.kept (Nat.le_refl _) hk1) (hK _ _ (Kept.refl _) rfl)
    refine AllSteps.cons (Step.move _ rfl rfl fun a w' hl => hl.old 0 rfl) ?_
    refine AllSteps.cons (Step.plain rfl fun a w' K hl hK => ?_) ?_
    · obtain ⟨_, _, _, h28⟩ := hl.dep 5 28 rfl rfl
      exact wp_conv rfl Try.underlying22 Try.underlying5 Try.underlying9 h28 (HB2.out.kept (Nat.le_refl _) hl.kept) (hK _ _ (Kept.refl _) rfl)
    refine AllSteps.cons (Step.move _ rfl rfl fun a w' hl => hl.old 1 rfl) ?_
    refine AllSteps.cons (Step.move _ rfl rfl fun a w' hl => hl.old 2 rfl) ?_
    refine AllSteps.cons (Step.plain rfl fun a w' K hl hK => ?_) ?_
    · obtain ⟨_, _, _, h30⟩ := hl.dep 7 30 rfl rfl
      obtain ⟨_, _, _, h31⟩ := hl.dep 8 31 rfl rfl
      replace h30 : a.eval (.tmp 30) = _ := h30
      replace h31 : a.eval (.tmp 31) = _ := h31
      refine wp_call rfl Try.func9 rfl rfl #[.int .i64 v, .int .i64 n] (by simp [h30, h31]) ?_
      refine (rput_any v n w' hv hv2 hn hn2).mono ?_
      rintro e w3 ⟨A3, c3, rfl, hs3, _, _, hb3⟩
      exact ⟨_, rfl, hK _ _ hb3 ⟨A3, c3, rfl, hs3⟩⟩
    refine AllSteps.cons (Step.plain rfl fun a w' K hl hK => ?_) ?_
    · obtain ⟨_, w1, hk1, A3, c3, h32, hs3⟩ := hl.dep 9 32 rfl rfl
      exact wp_conv rfl Try.underlying22 Try.underlying5 Try.underlying9 h32 (hs3.kept (Nat.le_refl _) hk1) (hK _ _ (Kept.refl _) rfl)
    refine AllSteps.cons (Step.plain rfl fun a w' K hl hK => ?_) ?_
    · obtain ⟨_, _, _, h29⟩ := hl.dep 6 29 rfl rfl
      obtain ⟨_, _, _, h33⟩ := hl.dep 10 33 rfl rfl
      replace h29 : a.eval (.tmp 29) = _ := h29
      replace h33 : a.eval (.tmp 33) = _ := h33
      refine wp_add_str rfl h29 h33 ?_ (hK _ _ (Kept.refl _) (congrArg Value.string (str_append _ _)))
      rw [str_size, str_size, putB_len]
      omega
    refine AllSteps.cons (Step.plain rfl fun a w' K hl hK => ?_) ?_
    · obtain ⟨_, _, _, h27⟩ := hl.dep 4 27 rfl rfl
      obtain ⟨_, _, _, h34⟩ := hl.dep 11 34 rfl rfl
      replace h27 : a.eval (.tmp 27) = _ := h27
      replace h34 : a.eval (.tmp 34) = _ := h34
      exact wp_neq_str rfl h27 h34 false (by simp) (hK _ _ (Kept.refl _) rfl)
    exact AllSteps.nil
  · intro f w3 hk3 hf
    obtain ⟨_, _, h35⟩ := hf 35 rfl rfl
    replace h35 : f 35 = .bool false := h35
    simp only [Exit.then, fill, dsts, List.filterMap_cons, List.filterMap_nil, List.foldl_cons, List.foldl_nil, Act.put, h35, List.setIfInBounds_toArray, List.set_cons_succ, List.set_cons_zero]
    clear hf
    have HC3 := Lib.hid (HC2.out.kept (Nat.le_refl _) hk3)
    have HB3 := Lib.hid (HB2.out.kept (Nat.le_refl _) hk3)
    have HN3 := Lib.hid ((Sl.own HO2.out).kept (Nat.le_refl _) hk3)
    have hbw3 : Kept w w3 := Kept.trans hbw2 hk3
    clear hk3 HC2 HB2 HO2
    have hX := Lib.hid (fun w4 hs => text_any (some ⟨g, 0, none⟩) l c2 s n w4 hs (by omega) (by omega) (by omega))
    have hY := Lib.hid (fun w4 => rtext_any s n w4 (by omega))
    have hLb : (txtL s n).length ≤ 256 := by
      unfold txtL
      split
      · rw [txt_len _ _ (by omega)]; omega
      · simp
    generalize txtL s n = L at *
    generalize txtK s n = bk at *
    obtain ⟨M, hM⟩ : ∃ M, M = l ++ L := ⟨_, rfl⟩
    rw [← hM] at hX
    have hMe : (M == l ++ L) = true := by rw [hM]; simp
    have HM := Lib.hid hM
    clear hM
    go_wp2_with fail
    refine (hX.out _ HC3.out).mono ?_
    rintro e w4 ⟨A4, c4, rfl, hs4, hk4⟩
    have HS4 := Lib.hid hs4
    have HC4 := Lib.hid (HC3.out.kept (Nat.le_refl _) hk4)
    have HB4 := Lib.hid (HB3.out.kept (Nat.le_refl _) hk4)
    have HN4 := Lib.hid (HN3.out.kept (Nat.le_refl _) hk4)
    have hbw4 : Kept w w4 := Kept.trans hbw3 hk4
    clear hs4 hk4 HC3 HB3 HN3
    go_wp2_with fail
    refine (hY.out _).mono ?_
    rintro e w5 ⟨A5, c5, rfl, hs5, hk5⟩
    have HS5 := Lib.hid hs5
    have HT5 := Lib.hid (HS4.out.kept (Nat.le_refl _) hk5)
    have HC5 := Lib.hid (HC4.out.kept (Nat.le_refl _) hk5)
    have HB5 := Lib.hid (HB4.out.kept (Nat.le_refl _) hk5)
    have HN5 := Lib.hid (HN4.out.kept (Nat.le_refl _) hk5)
    have hbw5 : Kept w w5 := Kept.trans hbw4 hk5
    clear hs5 hk5 HC4 HB4 HN4 HS4
    have hcat : (str l).size + (str L).size ≤ 9223372036854775807 := by rw [str_size, str_size]; omega
    have HP := Lib.hid (fun k hk => pad_any (some ⟨g, 0, none⟩) l c2 k w5 HC5.out (by omega) hk)
    by_cases hn16 : n ≤ 65536
    · go_wp2_with (first
        | ((with_reducible show wpList _ _ _ (⟨some 54, _, _, _, _, _⟩ :: _) _ _); refine wpList_convert_sl rfl _ _ 5 _ rfl Try.underlying22 Try.underlying5 Try.underlying9 _ _ _ M rfl HT5.out rfl ?_)
        | ((with_reducible show wpList _ _ _ (⟨some 56, _, _, _, _, _⟩ :: _) _ _); refine wpList_convert_sl rfl _ _ 5 _ rfl Try.underlying22 Try.underlying5 Try.underlying9 _ _ _ l rfl HB5.out rfl ?_)
        | ((with_reducible show wpList _ _ _ (⟨some 58, _, _, _, _, _⟩ :: _) _ _); refine wpList_convert_sl rfl _ _ 5 _ rfl Try.underlying22 Try.underlying5 Try.underlying9 _ _ _ L rfl HS5.out rfl ?_))
      refine (HP.out n (by omega)).mono ?_
      obtain ⟨M6, hM6⟩ : ∃ M6, M6 = l ++ List.replicate ((n : Int).toNat - l.length) 0 := ⟨_, rfl⟩
      rw [← hM6]
      have HM6 := Lib.hid hM6
      clear hM6
      rintro e w6 ⟨A6, c6, rfl, hs6, hk6⟩
      have HS6 := Lib.hid hs6
      have HC6 := Lib.hid (HC5.out.kept (Nat.le_refl _) hk6)
      have HB6 := Lib.hid (HB5.out.kept (Nat.le_refl _) hk6)
      have HN6 := HN5.out.kept (Nat.le_refl _) hk6
      have hbw6 : Kept w w6 := Kept.trans hbw5 hk6
      have h99 : w6.cell? ⟨g, l.length, none⟩ = some (.int .u8 99) := by
        obtain ⟨ad, hA, _, hcc⟩ := HN6.2 (by omega)
        injection hA with hA
        subst hA
        have := hcc l.length (.int .u8 99) (by rw [List.getElem?_append_right (by simp)]; simp)
        rwa [Addr.add_lit, Nat.zero_add] at this
      have hgm6 : g < w6.heap.size := World.block_lt_of_cell? _ _ h99
      clear hs6 hk6 HN6
      by_cases hln : (l.length : Int) ≤ n
      · have hdl : decide ((l.length : Int) ≤ n) = true := by simpa using hln
        rw [hdl]
        clear hdl
        go_wp2_with fail
        refine wp_region_rely (by kernel_rfl) (fun d u w' => match d with
          | 8 => u = (.bool true : Value)
          | 98 => u = (.bool true : Value)
          | 99 => u = (.bool true : Value)
          | 100 => u = (.slice A6 M6.length c6 : Value)
          | 101 => u = (.string (str (M6)) : Value)
          | 102 => u = (.slice A l.length c : Value)
          | 103 => ∃ A c, u = .slice A l.length c ∧ Mine w' w6.heap.size 5 1 (.slice A l.length c) l.length (l.map bv)
          | 104 => u = (.int .i64 n : Value)
          | 105 => ∃ A c, u = .slice A M6.length c ∧ Sl w' w'.heap.size 1 A M6.length (M6.map bv)
          | 106 => u = (.string (str (M6)) : Value)
          | 107 => u = (.bool true : Value)
          | 108 => u = (.bool true : Value)
          | 109 => u = (.bool true : Value)
          | 110 => u = (.slice (some ⟨g, 0, none⟩) l.length c2 : Value)
          | 111 => u = (.slice A l.length c : Value)
          | 112 => u = (.int .i64 (l.length : Int) : Value)
          | 113 => u = (.int .i64 ((l.length : Int) + 1) : Value)
          | 114 => u = (.slice (some ⟨g, 0, none⟩) (l.length + 1) c2 : Value)
          | 115 => u = (.slice A l.length c : Value)
          | 116 => u = (.int .i64 (l.length : Int) : Value)
          | 117 => u = (.pointer (some ⟨g, l.length, none⟩) : Value)
          | 118 => u = (.int .u8 99 : Value)
          | 119 => u = (.bool true : Value)
          | 120 => u = (.bool true : Value)
          | 121 => u = (.bool true : Value)
          | 122 => u = (.bool true : Value)
          | 123 => u = (.bool true : Value)
          | _ => True) 124 rfl (by decide +kernel) [8] ?_ ?_
        · refine AllSteps.cons (Step.move _ rfl rfl fun a w' hl => hl.old 15 rfl) ?_
          refine AllSteps.cons (Step.move _ rfl rfl fun a w' hl => let ⟨_, _, _, h⟩ := hl.dep 0 98 rfl rfl; h) ?_
          refine AllSteps.cons (Step.yes 1 true 99 rfl rfl rfl (fun _ _ h => h) fun a w' K hl hK => ?_) ?_
          · have h14 : a.eval (.tmp 14) = (.slice A6 M6.length c6 : Value) := hl.old 14 rfl
            exact wp_val (a.eval (.tmp 14)) rfl (hK _ _ (Kept.refl _) h14)
          refine AllSteps.cons (Step.yes 1 true 99 rfl rfl rfl (fun _ _ h => h) fun a w' K hl hK => ?_) ?_
          · obtain ⟨_, _, _, h100⟩ := hl.dep 2 100 rfl rfl
            replace h100 : a.eval (.tmp 100) = _ := h100
            exact wp_conv rfl Try.underlying22 Try.underlying5 Try.underlying9 h100 (HS6.out.kept (Nat.le_refl _) hl.kept) (hK _ _ (Kept.refl _) rfl)
          refine AllSteps.cons (Step.yes 1 true 99 rfl rfl rfl (fun _ _ h => h) fun a w' K hl hK => ?_) ?_
          · have h0 : a.eval (.tmp 0) = (.slice A l.length c : Value) := hl.old 0 rfl
            exact wp_val (a.eval (.tmp 0)) rfl (hK _ _ (Kept.refl _) h0)
          refine AllSteps.cons (Step.yes 1 true 99 rfl rfl rfl (fun _ _ h => h) fun a w' K hl hK => ?_) ?_
          · obtain ⟨_, _, _, h102⟩ := hl.dep 4 102 rfl rfl
            replace h102 : a.eval (.tmp 102) = _ := h102
            refine wp_call rfl Try.func15 rfl rfl #[.slice A l.length c] (by simp [h102]) ?_
            refine (bytes_any A l c w' (HB6.out.kept (Nat.le_refl _) hl.kept) hc (by omega)).mono ?_
            rintro e w7 ⟨A7, c7, rfl, hm7, hb7⟩
            exact ⟨_, rfl, hK _ _ hb7 ⟨A7, c7, rfl, hm7.lower hl.kept.size⟩⟩
          refine AllSteps.cons (Step.yes 1 true 99 rfl rfl rfl (fun _ _ h => h) fun a w' K hl hK => ?_) ?_
          · have h2 : a.eval (.tmp 2) = (.int .i64 n : Value) := hl.old 2 rfl
            exact wp_val (a.eval (.tmp 2)) rfl (hK _ _ (Kept.refl _) h2)
          refine AllSteps.cons (Step.yesRaw 1 true 99 rfl rfl rfl (fun _ _ h => h) fun a w' K hl hK => ?_) ?_
          · obtain ⟨_, w1, hk1, A7, c7, h103, hm7⟩ := hl.dep 5 103 rfl rfl
            obtain ⟨_, _, _, h104⟩ := hl.dep 6 104 rfl rfl
            replace h104 : a.eval (.tmp 104) = _ := h104
            refine wp_call rfl Try.func14 rfl rfl #[.slice A7 l.length c7, .int .i64 n] (by simp [h103, h104]) ?_
            refine (rpad_any w6.heap.size A7 l c7 n w' hl.kept.size (hm7.on hk1) (by omega) (by omega) (by omega)).mono ?_
            rw [← HM6.out]
            rintro e w7 ⟨A8, c8, rfl, hm8, hb8⟩
            obtain ⟨_, _, hv8, _, _, hs8⟩ := hm8.form
            injection hv8 with e1 _ e2
            subst e1; subst e2
            refine ⟨_, rfl, hK _ _ hb8 (fun d u hne hlv ⟨w8, hk8, h⟩ => ⟨w7, Kept.refl _, ?_⟩) ⟨A8, c8, rfl, hs8⟩⟩
            by_cases h103 : d = 103
            · subst h103; exact absurd hlv (by decide +kernel)
            by_cases h105 : d = 105
            · subst h105; exact absurd rfl hne
            clear hl hK hlv hne
            dsimp only at h ⊢
            split at h <;> first | exact h | exact absurd rfl h103 | exact absurd rfl h105 | (split <;> first | trivial | (exfalso; simp_all))
          refine AllSteps.cons (Step.yes 1 true 99 rfl rfl rfl (fun _ _ h => h) fun a w' K hl hK => ?_) ?_
          · obtain ⟨_, w1, hk1, A7, c7, h105, hs7⟩ := hl.dep 7 105 rfl rfl
            exact wp_conv rfl Try.underlying22 Try.underlying5 Try.underlying9 h105 (hs7.kept (Nat.le_refl _) hk1) (hK _ _ (Kept.refl _) rfl)
          refine AllSteps.cons (Step.yes 1 true 99 rfl rfl rfl (fun _ _ h => h) fun a w' K hl hK => ?_) ?_
          · obtain ⟨_, _, _, h101⟩ := hl.dep 3 101 rfl rfl
            replace h101 : a.eval (.tmp 101) = _ := h101
            obtain ⟨_, _, _, h106⟩ := hl.dep 8 106 rfl rfl
            replace h106 : a.eval (.tmp 106) = _ := h106
            exact wp_eql_str rfl h101 h106 _ (by simp) (hK _ _ (Kept.refl _) rfl)
          refine AllSteps.cons (Step.plain rfl fun a w' K hl hK => ?_) ?_
          · obtain ⟨_, _, _, h99⟩ := hl.dep 1 99 rfl rfl
            replace h99 : a.eval (.tmp 99) = _ := h99
            obtain ⟨_, _, _, h107⟩ := hl.dep 9 107 rfl rfl
            replace h107 : a.eval (.tmp 107) = _ := h107
            exact wp_pick rfl true h99 (hK _ _ (Kept.refl _) h107)
          refine AllSteps.cons (Step.move _ rfl rfl fun a w' hl => let ⟨_, _, _, h⟩ := hl.dep 10 108 rfl rfl; h) ?_
          refine AllSteps.cons (Step.yes 11 true 109 rfl rfl rfl (fun _ _ h => h) fun a w' K hl hK => ?_) ?_
          · have h9 : a.eval (.tmp 9) = (.slice (some ⟨g, 0, none⟩) l.length c2 : Value) := hl.old 9 rfl
            exact wp_val (a.eval (.tmp 9)) rfl (hK _ _ (Kept.refl _) h9)
          refine AllSteps.cons (Step.yes 11 true 109 rfl rfl rfl (fun _ _ h => h) fun a w' K hl hK => ?_) ?_
          · have h0 : a.eval (.tmp 0) = (.slice A l.length c : Value) := hl.old 0 rfl
            exact wp_val (a.eval (.tmp 0)) rfl (hK _ _ (Kept.refl _) h0)
          refine AllSteps.cons (Step.yes 11 true 109 rfl rfl rfl (fun _ _ h => h) fun a w' K hl hK => ?_) ?_
          · obtain ⟨_, _, _, h111⟩ := hl.dep 13 111 rfl rfl
            replace h111 : a.eval (.tmp 111) = _ := h111
            refine wp_val (.int .i64 (l.length : Int)) ?_ (hK _ _ (Kept.refl _) rfl)
            clear hl hK
            generalize a.eval = ρ at *
            simp [go_sem, h111]
          refine AllSteps.cons (Step.yes 11 true 109 rfl rfl rfl (fun _ _ h => h) fun a w' K hl hK => ?_) ?_
          · obtain ⟨_, _, _, h112⟩ := hl.dep 14 112 rfl rfl
            replace h112 : a.eval (.tmp 112) = _ := h112
            have hconst : ∀ x, a.eval (.const x) = x := fun _ => rfl
            refine wp_val (.int .i64 ((l.length : Int) + 1)) ?_ (hK _ _ (Kept.refl _) rfl)
            clear hl hK
            generalize a.eval = ρ at *
            simp [execOp, go_sem, h112, hconst, IntWalk.i64_in ((l.length : Int) + 1) (by omega)]
          refine AllSteps.cons (Step.yes 11 true 109 rfl rfl rfl (fun _ _ h => h) fun a w' K hl hK => ?_) ?_
          · obtain ⟨_, _, _, h110⟩ := hl.dep 12 110 rfl rfl
            replace h110 : a.eval (.tmp 110) = _ := h110
            obtain ⟨_, _, _, h113⟩ := hl.dep 15 113 rfl rfl
            replace h113 : a.eval (.tmp 113) = _ := h113
            refine wp_val (.slice (some ⟨g, 0, none⟩) (l.length + 1) c2) ?_ (hK _ _ (Kept.refl _) rfl)
            clear hl hK
            generalize a.eval = ρ at *
            simp [execOp, go_sem, h110, h113]
            intro h
            have := h (by omega)
            omega
          refine AllSteps.cons (Step.yes 11 true 109 rfl rfl rfl (fun _ _ h => h) fun a w' K hl hK => ?_) ?_
          · have h0 : a.eval (.tmp 0) = (.slice A l.length c : Value) := hl.old 0 rfl
            exact wp_val (a.eval (.tmp 0)) rfl (hK _ _ (Kept.refl _) h0)
          refine AllSteps.cons (Step.yes 11 true 109 rfl rfl rfl (fun _ _ h => h) fun a w' K hl hK => ?_) ?_
          · obtain ⟨_, _, _, h115⟩ := hl.dep 17 115 rfl rfl
            replace h115 : a.eval (.tmp 115) = _ := h115
            refine wp_val (.int .i64 (l.length : Int)) ?_ (hK _ _ (Kept.refl _) rfl)
            clear hl hK
            generalize a.eval = ρ at *
            simp [go_sem, h115]
          refine AllSteps.cons (Step.yes 11 true 109 rfl rfl rfl (fun _ _ h => h) fun a w' K hl hK => ?_) ?_
          · obtain ⟨_, _, _, h114⟩ := hl.dep 16 114 rfl rfl
            replace h114 : a.eval (.tmp 114) = _ := h114
            obtain ⟨_, _, _, h116⟩ := hl.dep 18 116 rfl rfl
            replace h116 : a.eval (.tmp 116) = _ := h116
            refine wp_val (.pointer (some ⟨g, l.length, none⟩)) ?_ (hK _ _ (Kept.refl _) rfl)
            clear hl hK
            generalize a.eval = ρ at *
            simp [execOp, go_sem, h114, h116]
            intro h
            omega
          refine AllSteps.cons (Step.yes 11 true 109 rfl rfl rfl (fun _ _ h => h) fun a w' K hl hK => ?_) ?_
          · obtain ⟨_, _, _, h117⟩ := hl.dep 19 117 rfl rfl
            replace h117 : a.eval (.tmp 117) = _ := h117
            have hcell : w'.cell? ⟨g, l.length, none⟩ = some (.int .u8 99) := (Below.cell hl.kept hgm6).trans h99
            refine wp_val (.int .u8 99) ?_ (hK _ _ (Kept.refl _) rfl)
            clear hl hK
            generalize a.eval = ρ at *
            simp [execOp, go_sem, h117, hcell]
          refine AllSteps.cons (Step.yes 11 true 109 rfl rfl rfl (fun _ _ h => h) fun a w' K hl hK => ?_) ?_
          · obtain ⟨_, _, _, h118⟩ := hl.dep 20 118 rfl rfl
            replace h118 : a.eval (.tmp 118) = _ := h118
            have hconst : ∀ x, a.eval (.const x) = x := fun _ => rfl
            refine wp_val (.bool true) ?_ (hK _ _ (Kept.refl _) rfl)
            clear hl hK
            generalize a.eval = ρ at *
            simp [execOp, go_sem, h118, hconst]
          refine AllSteps.cons (Step.plain rfl fun a w' K hl hK => ?_) ?_
          · obtain ⟨_, _, _, h109⟩ := hl.dep 11 109 rfl rfl
            replace h109 : a.eval (.tmp 109) = _ := h109
            obtain ⟨_, _, _, h119⟩ := hl.dep 21 119 rfl rfl
            replace h119 : a.eval (.tmp 119) = _ := h119
            exact wp_pick rfl true h109 (hK _ _ (Kept.refl _) h119)
          refine AllSteps.cons (Step.move _ rfl rfl fun a w' hl => let ⟨_, _, _, h⟩ := hl.dep 22 120 rfl rfl; h) ?_
          refine AllSteps.cons (Step.yes 23 true 121 rfl rfl rfl (fun _ _ h => h) fun a w' K hl hK => ?_) ?_
          · refine wp_call rfl Try.func13 rfl rfl #[] (by simp) ?_
            refine (awake_any w').mono ?_
            rintro e w7 ⟨rfl, hb7⟩
            exact ⟨_, rfl, hK _ _ hb7 rfl⟩
          refine AllSteps.cons (Step.plain rfl fun a w' K hl hK => ?_) ?_
          · obtain ⟨_, _, _, h121⟩ := hl.dep 23 121 rfl rfl
            replace h121 : a.eval (.tmp 121) = _ := h121
            obtain ⟨_, _, _, h122⟩ := hl.dep 24 122 rfl rfl
            replace h122 : a.eval (.tmp 122) = _ := h122
            exact wp_pick rfl true h121 (hK _ _ (Kept.refl _) h122)
          refine AllSteps.cons (Step.assign _ rfl rfl fun a w' hl => let ⟨_, _, _, h⟩ := hl.dep 25 123 rfl rfl; h) ?_
          exact AllSteps.nil
        · intro f w7 hk7 hf
          obtain ⟨_, _, h8⟩ := hf 8 rfl rfl
          replace h8 : f 8 = .bool true := h8
          simp only [Exit.then, fill, dsts, List.filterMap_cons, List.filterMap_nil, List.foldl_cons, List.foldl_nil, Act.put, h8, List.setIfInBounds_toArray, List.set_cons_succ, List.set_cons_zero]
          clear hf
          go_wp2_with fail
          go_ret
          exact ⟨rfl, hbw6.trans hk7⟩
      · have hdl : decide ((l.length : Int) ≤ n) = false := by simpa using hln
        have hltI : n < (l.length : Int) := by omega
        have hMl : M6 = l := by rw [HM6.out, show (n : Int).toNat - l.length = 0 by omega, List.replicate_zero, List.append_nil]
        rw [hdl]
        clear hdl HM6
        subst hMl
        go_wp2_with (first
          | ((with_reducible show wpList _ _ _ (⟨some 78, _, _, _, _, _⟩ :: _) _ _); refine wpList_convert_sl rfl _ _ 5 _ rfl Try.underlying22 Try.underlying5 Try.underlying9 _ _ _ M6 rfl HS6.out rfl ?_)
          | ((with_reducible show wpList _ _ _ (⟨some 80, _, _, _, _, _⟩ :: _) _ _); refine wpList_convert_sl rfl _ _ 5 _ rfl Try.underlying22 Try.underlying5 Try.underlying9 _ _ _ M6 rfl HB6.out rfl ?_)
          | (go_at_call 13; refine (awake_any _).mono ?_; rintro e w7 ⟨rfl, hb7⟩))
        go_ret
        exact ⟨rfl, hbw6.trans hb7⟩
    · go_wp2_with (first
        | ((with_reducible show wpList _ _ _ (⟨some 54, _, _, _, _, _⟩ :: _) _ _); refine wpList_convert_sl rfl _ _ 5 _ rfl Try.underlying22 Try.underlying5 Try.underlying9 _ _ _ M rfl HT5.out rfl ?_)
        | ((with_reducible show wpList _ _ _ (⟨some 56, _, _, _, _, _⟩ :: _) _ _); refine wpList_convert_sl rfl _ _ 5 _ rfl Try.underlying22 Try.underlying5 Try.underlying9 _ _ _ l rfl HB5.out rfl ?_)
        | ((with_reducible show wpList _ _ _ (⟨some 58, _, _, _, _, _⟩ :: _) _ _); refine wpList_convert_sl rfl _ _ 5 _ rfl Try.underlying22 Try.underlying5 Try.underlying9 _ _ _ L rfl HS5.out rfl ?_))
      refine (HP.out 65536 (by omega)).mono ?_
      obtain ⟨M6, hM6⟩ : ∃ M6, M6 = l ++ List.replicate ((65536 : Int).toNat - l.length) 0 := ⟨_, rfl⟩
      rw [← hM6]
      have HM6 := Lib.hid hM6
      clear hM6
      rintro e w6 ⟨A6, c6, rfl, hs6, hk6⟩
      have HS6 := Lib.hid hs6
      have HC6 := Lib.hid (HC5.out.kept (Nat.le_refl _) hk6)
      have HB6 := Lib.hid (HB5.out.kept (Nat.le_refl _) hk6)
      have HN6 := HN5.out.kept (Nat.le_refl _) hk6
      have hbw6 : Kept w w6 := Kept.trans hbw5 hk6
      have h99 : w6.cell? ⟨g, l.length, none⟩ = some (.int .u8 99) := by
        obtain ⟨ad, hA, _, hcc⟩ := HN6.2 (by omega)
        injection hA with hA
        subst hA
        have := hcc l.length (.int .u8 99) (by rw [List.getElem?_append_right (by simp)]; simp)
        rwa [Addr.add_lit, Nat.zero_add] at this
      have hgm6 : g < w6.heap.size := World.block_lt_of_cell? _ _ h99
      clear hs6 hk6 HN6
      by_cases hln : (l.length : Int) ≤ 65536
      · have hdl : decide ((l.length : Int) ≤ 65536) = true := by simpa using hln
        rw [hdl]
        clear hdl
        go_wp2_with fail
        refine wp_region_rely (by kernel_rfl) (fun d u w' => match d with
          | 8 => u = (.bool true : Value)
          | 98 => u = (.bool true : Value)
          | 99 => u = (.bool true : Value)
          | 100 => u = (.slice A6 M6.length c6 : Value)
          | 101 => u = (.string (str (M6)) : Value)
          | 102 => u = (.slice A l.length c : Value)
          | 103 => ∃ A c, u = .slice A l.length c ∧ Mine w' w6.heap.size 5 1 (.slice A l.length c) l.length (l.map bv)
          | 104 => u = (.int .i64 65536 : Value)
          | 105 => ∃ A c, u = .slice A M6.length c ∧ Sl w' w'.heap.size 1 A M6.length (M6.map bv)
          | 106 => u = (.string (str (M6)) : Value)
          | 107 => u = (.bool true : Value)
          | 108 => u = (.bool true : Value)
          | 109 => u = (.bool true : Value)
          | 110 => u = (.slice (some ⟨g, 0, none⟩) l.length c2 : Value)
          | 111 => u = (.slice A l.length c : Value)
          | 112 => u = (.int .i64 (l.length : Int) : Value)
          | 113 => u = (.int .i64 ((l.length : Int) + 1) : Value)
          | 114 => u = (.slice (some ⟨g, 0, none⟩) (l.length + 1) c2 : Value)
          | 115 => u = (.slice A l.length c : Value)
          | 116 => u = (.int .i64 (l.length : Int) : Value)
          | 117 => u = (.pointer (some ⟨g, l.length, none⟩) : Value)
          | 118 => u = (.int .u8 99 : Value)
          | 119 => u = (.bool true : Value)
          | 120 => u = (.bool true : Value)
          | 121 => u = (.bool true : Value)
          | 122 => u = (.bool true : Value)
          | 123 => u = (.bool true : Value)
          | _ => True) 124 rfl (by decide +kernel) [8] ?_ ?_
        · refine AllSteps.cons (Step.move _ rfl rfl fun a w' hl => hl.old 15 rfl) ?_
          refine AllSteps.cons (Step.move _ rfl rfl fun a w' hl => let ⟨_, _, _, h⟩ := hl.dep 0 98 rfl rfl; h) ?_
          refine AllSteps.cons (Step.yes 1 true 99 rfl rfl rfl (fun _ _ h => h) fun a w' K hl hK => ?_) ?_
          · have h14 : a.eval (.tmp 14) = (.slice A6 M6.length c6 : Value) := hl.old 14 rfl
            exact wp_val (a.eval (.tmp 14)) rfl (hK _ _ (Kept.refl _) h14)
          refine AllSteps.cons (Step.yes 1 true 99 rfl rfl rfl (fun _ _ h => h) fun a w' K hl hK => ?_) ?_
          · obtain ⟨_, _, _, h100⟩ := hl.dep 2 100 rfl rfl
            replace h100 : a.eval (.tmp 100) = _ := h100
            exact wp_conv rfl Try.underlying22 Try.underlying5 Try.underlying9 h100 (HS6.out.kept (Nat.le_refl _) hl.kept) (hK _ _ (Kept.refl _) rfl)
          refine AllSteps.cons (Step.yes 1 true 99 rfl rfl rfl (fun _ _ h => h) fun a w' K hl hK => ?_) ?_
          · have h0 : a.eval (.tmp 0) = (.slice A l.length c : Value) := hl.old 0 rfl
            exact wp_val (a.eval (.tmp 0)) rfl (hK _ _ (Kept.refl _) h0)
          refine AllSteps.cons (Step.yes 1 true 99 rfl rfl rfl (fun _ _ h => h) fun a w' K hl hK => ?_) ?_
          · obtain ⟨_, _, _, h102⟩ := hl.dep 4 102 rfl rfl
            replace h102 : a.eval (.tmp 102) = _ := h102
            refine wp_call rfl Try.func15 rfl rfl #[.slice A l.length c] (by simp [h102]) ?_
            refine (bytes_any A l c w' (HB6.out.kept (Nat.le_refl _) hl.kept) hc (by omega)).mono ?_
            rintro e w7 ⟨A7, c7, rfl, hm7, hb7⟩
            exact ⟨_, rfl, hK _ _ hb7 ⟨A7, c7, rfl, hm7.lower hl.kept.size⟩⟩
          refine AllSteps.cons (Step.yes 1 true 99 rfl rfl rfl (fun _ _ h => h) fun a w' K hl hK => ?_) ?_
          · have h2 : a.eval (.tmp 2) = (.int .i64 65536 : Value) := hl.old 2 rfl
            exact wp_val (a.eval (.tmp 2)) rfl (hK _ _ (Kept.refl _) h2)
          refine AllSteps.cons (Step.yesRaw 1 true 99 rfl rfl rfl (fun _ _ h => h) fun a w' K hl hK => ?_) ?_
          · obtain ⟨_, w1, hk1, A7, c7, h103, hm7⟩ := hl.dep 5 103 rfl rfl
            obtain ⟨_, _, _, h104⟩ := hl.dep 6 104 rfl rfl
            replace h104 : a.eval (.tmp 104) = _ := h104
            refine wp_call rfl Try.func14 rfl rfl #[.slice A7 l.length c7, .int .i64 65536] (by simp [h103, h104]) ?_
            refine (rpad_any w6.heap.size A7 l c7 65536 w' hl.kept.size (hm7.on hk1) (by omega) (by omega) (by omega)).mono ?_
            rw [← HM6.out]
            rintro e w7 ⟨A8, c8, rfl, hm8, hb8⟩
            obtain ⟨_, _, hv8, _, _, hs8⟩ := hm8.form
            injection hv8 with e1 _ e2
            subst e1; subst e2
            refine ⟨_, rfl, hK _ _ hb8 (fun d u hne hlv ⟨w8, hk8, h⟩ => ⟨w7, Kept.refl _, ?_⟩) ⟨A8, c8, rfl, hs8⟩⟩
            by_cases h103 : d = 103
            · subst h103; exact absurd hlv (by decide +kernel)
            by_cases h105 : d = 105
            · subst h105; exact absurd rfl hne
            clear hl hK hlv hne
            dsimp only at h ⊢
            split at h <;> first | exact h | exact absurd rfl h103 | exact absurd rfl h105 | (split <;> first | trivial | (exfalso; simp_all))
          refine AllSteps.cons (Step.yes 1 true 99 rfl rfl rfl (fun _ _ h => h) fun a w' K hl hK => ?_) ?_
          · obtain ⟨_, w1, hk1, A7, c7, h105, hs7⟩ := hl.dep 7 105 rfl rfl
            exact wp_conv rfl Try.underlying22 Try.underlying5 Try.underlying9 h105 (hs7.kept (Nat.le_refl _) hk1) (hK _ _ (Kept.refl _) rfl)
          refine AllSteps.cons (Step.yes 1 true 99 rfl rfl rfl (fun _ _ h => h) fun a w' K hl hK => ?_) ?_
          · obtain ⟨_, _, _, h101⟩ := hl.dep 3 101 rfl rfl
            replace h101 : a.eval (.tmp 101) = _ := h101
            obtain ⟨_, _, _, h106⟩ := hl.dep 8 106 rfl rfl
            replace h106 : a.eval (.tmp 106) = _ := h106
            exact wp_eql_str rfl h101 h106 _ (by simp) (hK _ _ (Kept.refl _) rfl)
          refine AllSteps.cons (Step.plain rfl fun a w' K hl hK => ?_) ?_
          · obtain ⟨_, _, _, h99⟩ := hl.dep 1 99 rfl rfl
            replace h99 : a.eval (.tmp 99) = _ := h99
            obtain ⟨_, _, _, h107⟩ := hl.dep 9 107 rfl rfl
            replace h107 : a.eval (.tmp 107) = _ := h107
            exact wp_pick rfl true h99 (hK _ _ (Kept.refl _) h107)
          refine AllSteps.cons (Step.move _ rfl rfl fun a w' hl => let ⟨_, _, _, h⟩ := hl.dep 10 108 rfl rfl; h) ?_
          refine AllSteps.cons (Step.yes 11 true 109 rfl rfl rfl (fun _ _ h => h) fun a w' K hl hK => ?_) ?_
          · have h9 : a.eval (.tmp 9) = (.slice (some ⟨g, 0, none⟩) l.length c2 : Value) := hl.old 9 rfl
            exact wp_val (a.eval (.tmp 9)) rfl (hK _ _ (Kept.refl _) h9)
          refine AllSteps.cons (Step.yes 11 true 109 rfl rfl rfl (fun _ _ h => h) fun a w' K hl hK => ?_) ?_
          · have h0 : a.eval (.tmp 0) = (.slice A l.length c : Value) := hl.old 0 rfl
            exact wp_val (a.eval (.tmp 0)) rfl (hK _ _ (Kept.refl _) h0)
          refine AllSteps.cons (Step.yes 11 true 109 rfl rfl rfl (fun _ _ h => h) fun a w' K hl hK => ?_) ?_
          · obtain ⟨_, _, _, h111⟩ := hl.dep 13 111 rfl rfl
            replace h111 : a.eval (.tmp 111) = _ := h111
            refine wp_val (.int .i64 (l.length : Int)) ?_ (hK _ _ (Kept.refl _) rfl)
            clear hl hK
            generalize a.eval = ρ at *
            simp [go_sem, h111]
          refine AllSteps.cons (Step.yes 11 true 109 rfl rfl rfl (fun _ _ h => h) fun a w' K hl hK => ?_) ?_
          · obtain ⟨_, _, _, h112⟩ := hl.dep 14 112 rfl rfl
            replace h112 : a.eval (.tmp 112) = _ := h112
            have hconst : ∀ x, a.eval (.const x) = x := fun _ => rfl
            refine wp_val (.int .i64 ((l.length : Int) + 1)) ?_ (hK _ _ (Kept.refl _) rfl)
            clear hl hK
            generalize a.eval = ρ at *
            simp [execOp, go_sem, h112, hconst, IntWalk.i64_in ((l.length : Int) + 1) (by omega)]
          refine AllSteps.cons (Step.yes 11 true 109 rfl rfl rfl (fun _ _ h => h) fun a w' K hl hK => ?_) ?_
          · obtain ⟨_, _, _, h110⟩ := hl.dep 12 110 rfl rfl
            replace h110 : a.eval (.tmp 110) = _ := h110
            obtain ⟨_, _, _, h113⟩ := hl.dep 15 113 rfl rfl
            replace h113 : a.eval (.tmp 113) = _ := h113
            refine wp_val (.slice (some ⟨g, 0, none⟩) (l.length + 1) c2) ?_ (hK _ _ (Kept.refl _) rfl)
            clear hl hK
            generalize a.eval = ρ at *
            simp [execOp, go_sem, h110, h113]
            intro h
            have := h (by omega)
            omega
          refine AllSteps.cons (Step.yes 11 true 109 rfl rfl rfl (fun _ _ h => h) fun a w' K hl hK => ?_) ?_
          · have h0 : a.eval (.tmp 0) = (.slice A l.length c : Value) := hl.old 0 rfl
            exact wp_val (a.eval (.tmp 0)) rfl (hK _ _ (Kept.refl _) h0)
          refine AllSteps.cons (Step.yes 11 true 109 rfl rfl rfl (fun _ _ h => h) fun a w' K hl hK => ?_) ?_
          · obtain ⟨_, _, _, h115⟩ := hl.dep 17 115 rfl rfl
            replace h115 : a.eval (.tmp 115) = _ := h115
            refine wp_val (.int .i64 (l.length : Int)) ?_ (hK _ _ (Kept.refl _) rfl)
            clear hl hK
            generalize a.eval = ρ at *
            simp [go_sem, h115]
          refine AllSteps.cons (Step.yes 11 true 109 rfl rfl rfl (fun _ _ h => h) fun a w' K hl hK => ?_) ?_
          · obtain ⟨_, _, _, h114⟩ := hl.dep 16 114 rfl rfl
            replace h114 : a.eval (.tmp 114) = _ := h114
            obtain ⟨_, _, _, h116⟩ := hl.dep 18 116 rfl rfl
            replace h116 : a.eval (.tmp 116) = _ := h116
            refine wp_val (.pointer (some ⟨g, l.length, none⟩)) ?_ (hK _ _ (Kept.refl _) rfl)
            clear hl hK
            generalize a.eval = ρ at *
            simp [execOp, go_sem, h114, h116]
            intro h
            omega
          refine AllSteps.cons (Step.yes 11 true 109 rfl rfl rfl (fun _ _ h => h) fun a w' K hl hK => ?_) ?_
          · obtain ⟨_, _, _, h117⟩ := hl.dep 19 117 rfl rfl
            replace h117 : a.eval (.tmp 117) = _ := h117
            have hcell : w'.cell? ⟨g, l.length, none⟩ = some (.int .u8 99) := (Below.cell hl.kept hgm6).trans h99
            refine wp_val (.int .u8 99) ?_ (hK _ _ (Kept.refl _) rfl)
            clear hl hK
            generalize a.eval = ρ at *
            simp [execOp, go_sem, h117, hcell]
          refine AllSteps.cons (Step.yes 11 true 109 rfl rfl rfl (fun _ _ h => h) fun a w' K hl hK => ?_) ?_
          · obtain ⟨_, _, _, h118⟩ := hl.dep 20 118 rfl rfl
            replace h118 : a.eval (.tmp 118) = _ := h118
            have hconst : ∀ x, a.eval (.const x) = x := fun _ => rfl
            refine wp_val (.bool true) ?_ (hK _ _ (Kept.refl _) rfl)
            clear hl hK
            generalize a.eval = ρ at *
            simp [execOp, go_sem, h118, hconst]
          refine AllSteps.cons (Step.plain rfl fun a w' K hl hK => ?_) ?_
          · obtain ⟨_, _, _, h109⟩ := hl.dep 11 109 rfl rfl
            replace h109 : a.eval (.tmp 109) = _ := h109
            obtain ⟨_, _, _, h119⟩ := hl.dep 21 119 rfl rfl
            replace h119 : a.eval (.tmp 119) = _ := h119
            exact wp_pick rfl true h109 (hK _ _ (Kept.refl _) h119)
          refine AllSteps.cons (Step.move _ rfl rfl fun a w' hl => let ⟨_, _, _, h⟩ := hl.dep 22 120 rfl rfl; h) ?_
          refine AllSteps.cons (Step.yes 23 true 121 rfl rfl rfl (fun _ _ h => h) fun a w' K hl hK => ?_) ?_
          · refine wp_call rfl Try.func13 rfl rfl #[] (by simp) ?_
            refine (awake_any w').mono ?_
            rintro e w7 ⟨rfl, hb7⟩
            exact ⟨_, rfl, hK _ _ hb7 rfl⟩
          refine AllSteps.cons (Step.plain rfl fun a w' K hl hK => ?_) ?_
          · obtain ⟨_, _, _, h121⟩ := hl.dep 23 121 rfl rfl
            replace h121 : a.eval (.tmp 121) = _ := h121
            obtain ⟨_, _, _, h122⟩ := hl.dep 24 122 rfl rfl
            replace h122 : a.eval (.tmp 122) = _ := h122
            exact wp_pick rfl true h121 (hK _ _ (Kept.refl _) h122)
          refine AllSteps.cons (Step.assign _ rfl rfl fun a w' hl => let ⟨_, _, _, h⟩ := hl.dep 25 123 rfl rfl; h) ?_
          exact AllSteps.nil
        · intro f w7 hk7 hf
          obtain ⟨_, _, h8⟩ := hf 8 rfl rfl
          replace h8 : f 8 = .bool true := h8
          simp only [Exit.then, fill, dsts, List.filterMap_cons, List.filterMap_nil, List.foldl_cons, List.foldl_nil, Act.put, h8, List.setIfInBounds_toArray, List.set_cons_succ, List.set_cons_zero]
          clear hf
          go_wp2_with fail
          go_ret
          exact ⟨rfl, hbw6.trans hk7⟩
      · have hdl : decide ((l.length : Int) ≤ 65536) = false := by simpa using hln
        have hltI : 65536 < (l.length : Int) := by omega
        have hMl : M6 = l := by rw [HM6.out, show (65536 : Int).toNat - l.length = 0 by omega, List.replicate_zero, List.append_nil]
        rw [hdl]
        clear hdl HM6
        subst hMl
        go_wp2_with (first
          | ((with_reducible show wpList _ _ _ (⟨some 78, _, _, _, _, _⟩ :: _) _ _); refine wpList_convert_sl rfl _ _ 5 _ rfl Try.underlying22 Try.underlying5 Try.underlying9 _ _ _ M6 rfl HS6.out rfl ?_)
          | ((with_reducible show wpList _ _ _ (⟨some 80, _, _, _, _, _⟩ :: _) _ _); refine wpList_convert_sl rfl _ _ 5 _ rfl Try.underlying22 Try.underlying5 Try.underlying9 _ _ _ M6 rfl HB6.out rfl ?_)
          | (go_at_call 13; refine (awake_any _).mono ?_; rintro e w7 ⟨rfl, hb7⟩))
        go_ret
        exact ⟨rfl, hbw6.trans hb7⟩
end Go.Proofs.Ytbjfjbndekcboaa.Wi
