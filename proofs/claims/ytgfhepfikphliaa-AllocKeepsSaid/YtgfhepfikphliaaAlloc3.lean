/-
  alloc.Next of anything; the copy of ints; when two lists of ints are the same; the law's awake.
-/
import Derived.Test.YtgfhepfikphliaaAlloc2
import Derived.Deep.QuietTactic
import Derived.BigQuiet
namespace Go.Proofs.Ytgfhepfikphliaa.Al
open Go.RowKit Wd In
set_option linter.unusedVariables false

theorem next_any (old now ps ts : List Int) (Ap At : Option Addr) (cp ct : Nat) (w : World) (hold : old.length = 37) (hnow : now.length = 37) (hbn : ∀ x ∈ now, -9223372036854775808 ≤ x ∧ x ≤ 9223372036854775807)
    (hps : Sl w w.heap.size 1 Ap ps.length (ps.map (Value.int .i64))) (hts : Sl w w.heap.size 1 At ts.length (ts.map (Value.int .i64))) (hbig : ps.length ≤ 140737488355328) :
    Calls Try.prog 9 #[.agg (ints old), .agg (ints now), .slice Ap ps.length cp, .slice At ts.length ct] w (NextR w (nextM old now ps ts)) := by
  cases h : chkL old
  · exact next_bad old now ps ts Ap At cp ct w hold hnow (.inl h)
  · by_cases hl : ps.length = ts.length
    · by_cases h0 : now.getD 0 0 = 0
      · exact next_none old now ps ts Ap At cp ct w hold hnow h hl hbn hps hts hbig h0
      · exact next_some old now ps ts Ap At cp ct w hold hnow h hl hbn hps hts hbig h0
    · exact next_bad old now ps ts Ap At cp ct w hold hnow (.inr ⟨h, hl⟩)

theorem iv_one : ∀ l : List Int, ∀ u ∈ l.map (Value.int .i64), u.oneCell' = true := fun l u hu => by
  obtain ⟨_, _, rfl⟩ := List.mem_map.1 hu
  rfl
set_option maxHeartbeats 400000 in
theorem ints_any (A : Option Addr) (l : List Int) (c : Nat) (w : World) (hs : Sl w w.heap.size 1 A l.length (l.map (Value.int .i64))) (hc : l.length ≤ c) (hk : l.length ≤ 17592186044416) :
    Calls Try.prog 10 #[.slice A l.length c] w fun e w' => ∃ A c, e = .returned (.slice A l.length c) ∧ Sl w' w'.heap.size 1 A l.length (l.map (Value.int .i64)) ∧ Below w.heap.size w w' := by
  obtain ⟨i0, hi, hz0, hz1, hz2⟩ := info_parts infoI
  go_enter Try.func10, Try.ntmps10
  go_wp2_with (at_builtin; refine wpList_append_mine rfl _ (.tmp 3) _ _ rfl w.heap.size 3 i0 (.int .i64 0) 1 8 hz1 hz2 rfl (by decide) _ _ _ rfl Mine.nil _ l.length (l.map (Value.int .i64)) rfl (Gives.slice Try.underlying25 hi hz0 (by rw [hz1]; exact hs) (iv_one l)) (by simp only [maxLen]; omega) (by omega) (Nat.le_refl _) ?_; intro A3 c3 w3 hm3 hg3 hb3 hat3 hown3; simp only [Nat.zero_add, List.nil_append] at hm3)
  go_ret
  obtain ⟨_, _, hv, _, _, hs3⟩ := hm3.form
  injection hv with h1 _ h2
  subst h1; subst h2
  exact ⟨_, _, rfl, hs3, hb3⟩

theorem eq_take_all {l m : List Int} {i : Nat} (hi : i = l.length) (hl : l.length = m.length) (h : l.take i = m.take i) : (l == m) = true := by
  rw [hi, List.take_of_length_le (Nat.le_refl _), List.take_of_length_le (by omega)] at h
  simp [h]
theorem ne_at {l m : List Int} {i : Nat} {x y : Int} (hx : l[i]? = some x) (hy : m[i]? = some y) (h : ¬ x = y) : (l == m) = false := by
  rw [beq_eq_false_iff_ne]
  intro e
  rw [e, hy] at hx
  injection hx with hx
  exact h hx.symm
set_option maxRecDepth 100000 in
set_option maxHeartbeats 800000 in
theorem same_any (A B : Option Addr) (l m : List Int) (c d : Nat) (w : World) (hl : Sl w w.heap.size 1 A l.length (l.map (Value.int .i64))) (hm : Sl w w.heap.size 1 B m.length (m.map (Value.int .i64))) (hb : l.length ≤ 140737488355328) (hb2 : m.length ≤ 140737488355328) :
    Calls Try.prog 12 #[.slice A l.length c, .slice B m.length d] w fun e w' => e = .returned (.bool (l == m)) ∧ Below w.heap.size w w' := by
  by_cases hlen : l.length = m.length
  · have hne : ((l.length : Int) != (m.length : Int)) = false := by rw [hlen]; simp
    have HLEN := Lib.hid hlen
    have HL := Lib.hid hl
    have HM := Lib.hid hm
    clear hlen hl hm
    go_enter Try.func12, Try.ntmps12
    go_wp2
    go_loopw [5] (fun j wr => ∃ i : Nat, i ≤ l.length ∧ j = .int .i64 (i : Int) ∧ l.take i = m.take i ∧ Below w.heap.size w wr) (fun j _ => l.length - (intOf j).toNat)
    case atStart => exact ⟨0, by omega, rfl, by simp, Below.refl _ _⟩
    case round =>
      obtain ⟨i, hi, rfl, ht, hbel⟩ := hrel
      have HT := Lib.hid ht
      have HB := Lib.hid hbel
      clear ht hbel
      by_cases hlt : i < l.length
      · have hltI : (i : Int) < (l.length : Int) := by omega
        have hltm : i < m.length := by rw [← HLEN.out]; exact hlt
        have hltmI : (i : Int) < (m.length : Int) := by omega
        obtain ⟨x, hx⟩ : ∃ z, l[i]? = some z := ⟨_, List.getElem?_eq_getElem hlt⟩
        obtain ⟨y, hy⟩ : ∃ z, m[i]? = some z := ⟨_, List.getElem?_eq_getElem hltm⟩
        obtain ⟨bp, op, rfl, hbp, hcp⟩ := (HL.out.below HB.out).at (by omega) (by decide)
        obtain ⟨bt, ot, rfl, hbt, hct⟩ := (HM.out.below HB.out).at (by omega) (by decide)
        have hc1 := hcp i (.int .i64 x) (by simp [hx])
        have hc2 := hct i (.int .i64 y) (by simp [hy])
        have HX := Lib.hid hx
        have HY := Lib.hid hy
        clear hcp hct hbp hbt hx hy
        by_cases hxy : x = y
        · have hxb : (x != y) = false := by simp [hxy]
          have HXY := Lib.hid hxy
          clear hxy
          go_wp2
          go_quiet (fail)
          go_wp2
          go_roundw
          case measure => simp [intOf]; omega
          case rel => exact ⟨i + 1, by omega, by simp, take_next HT.out HX.out (by rw [HXY.out]; exact HY.out), bel_drewN HB.out _⟩
        · have hxb : (x != y) = true := by simp [hxy]
          have HXY := Lib.hid hxy
          clear hxy
          go_wp2
          go_quiet (fail)
          go_wp2
          go_ret
          rw [ne_at HX.out HY.out HXY.out]
          exact ⟨rfl, bel_drewN HB.out _⟩
      · have hge : (l.length : Int) ≤ (i : Int) := by omega
        have HI : Hid (i = l.length) := by show _ = _; omega
        go_wp2
        go_ret
        rw [eq_take_all HI.out HLEN.out HT.out]
        exact ⟨rfl, HB.out⟩
  · have hne : ((l.length : Int) != (m.length : Int)) = true := by simp; omega
    have hf : (l == m) = false := by
      rw [beq_eq_false_iff_ne]
      intro e
      exact hlen (by rw [e])
    rw [hf]
    clear hf hlen
    go_enter Try.func12, Try.ntmps12
    go_wp2
    go_ret
    exact ⟨rfl, Below.refl _ _⟩

/-! ### awake -/
def o0 : List Int := 1 :: 10 :: 1 :: 2 :: 0 :: 90 :: List.replicate 31 0
def x0 : List Int := 1 :: 10 :: 1 :: 2 :: 0 :: 95 :: List.replicate 31 0
theorem nextM_awake : nextM o0 o0 [0] [95] = some (x0, [90]) := by decide +kernel
theorem built_awake : Try.prog.built 24 [(0, .int .i64 1), (1, .int .i64 10), (2, .int .i64 1), (3, .int .i64 2)] = some (ints (1 :: 10 :: 1 :: 2 :: List.replicate 33 0)) := by kernel_rfl
theorem next_awake (Ap At : Option Addr) (w : World) (hps : Sl w w.heap.size 1 Ap 1 [.int .i64 0]) (hts : Sl w w.heap.size 1 At 1 [.int .i64 95]) :
    Calls Try.prog 9 #[.agg (ints o0), .agg (ints o0), .slice Ap 1 1, .slice At 1 1] w fun e w' => ∃ A c, e = .returned (.tuple #[.agg (ints x0), .slice A 1 c, .bool true]) ∧ Sl w' w'.heap.size 1 A 1 [.int .i64 90] ∧ Below w.heap.size w w' := by
  refine (next_any o0 o0 [0] [95] Ap At 1 1 w rfl rfl (by decide) hps hts (by decide)).mono ?_
  intro e w' h
  rw [nextM_awake] at h
  obtain ⟨A, c, h1, h2, h3⟩ := h
  exact ⟨A, c, h1, Sl.own h2, h3⟩
theorem same_awake (A B : Option Addr) (c d : Nat) (w : World) (hl : Sl w w.heap.size 1 A 1 [.int .i64 90]) (hm : Sl w w.heap.size 1 B 1 [.int .i64 90]) :
    Calls Try.prog 12 #[.slice A 1 c, .slice B 1 d] w fun e w' => e = .returned (.bool true) ∧ Below w.heap.size w w' :=
  same_any A B [90] [90] c d w hl hm (by decide) (by decide)

set_option maxRecDepth 100000 in
set_option maxHeartbeats 800000 in
theorem awake_any (w : World) : Calls Try.prog 8 #[] w fun e w' => e = .returned (.bool true) ∧ Below w.heap.size w w' := by
  have HO0 : Hid (o0.length = 37) := (rfl : o0.length = 37)
  have HX0 : Hid (x0.length = 37) := (rfl : x0.length = 37)
  have HA0 : Hid ((1 :: 10 :: 1 :: 2 :: List.replicate 33 (0 : Int)).length = 37) := (rfl : (1 :: 10 :: 1 :: 2 :: List.replicate 33 (0 : Int)).length = 37)
  have HX95 : Hid (x0[5]? = some 95) := (rfl : x0[5]? = some 95)
  have hset : (1 :: 10 :: 1 :: 2 :: List.replicate 33 (0 : Int)).set 5 90 = o0 := rfl
  go_enter Try.func8, Try.ntmps8
  go_wp2_with (first
    | ((with_reducible show wpList _ _ _ (⟨some 5, _, _, _, _, _⟩ :: _) _ _); refine wpList_val rfl (.agg (ints (1 :: 10 :: 1 :: 2 :: List.replicate 33 0))) _ (by unfold execOp; simp) ?_)
    | ((with_reducible show wpList _ _ _ (⟨some 1, _, _, _, _, _⟩ :: _) _ _); refine wpList_alloc_ino rfl rfl ?_; intro w1 hr1 hb1 hlt1)
    | ((with_reducible show wpList _ _ _ (⟨none, Op.store 24 (.tmp 1) _, _, _, _, _⟩ :: _) _ _); refine wpList_store_ino rfl _ _ rfl hr1 zIno_len HA0.out rfl rfl ?_; intro w2 hr2 ho2)
    | ((with_reducible show wpList _ _ _ (⟨none, Op.store 3 (.tmp 7) _, _, _, _, _⟩ :: _) _ _); refine wpList_store_num rfl _ _ _ rfl Try.underlying3 (by kernel_rfl) hr2 HA0.out 5 90 (by decide) rfl rfl ?_; intro w3 hr3 ho3 hl3; rw [hset] at hr3)
    | ((with_reducible show wpList _ _ _ (⟨some 9, _, _, _, _, _⟩ :: _) _ _); refine wpList_load_ino rfl _ rfl hr3 HO0.out rfl ?_)
    | ((with_reducible show wpList _ _ _ (⟨some 10, _, _, _, _, _⟩ :: _) _ _); refine wpList_load_ino rfl _ rfl hr3 HO0.out rfl ?_))
  have kk : Below w.heap.size w w3 := ho3.below (ho2.below hb1 (Nat.le_refl _)) (Nat.le_refl _)
  refine (next_awake _ _ _ ?_ ?_).mono ?_
  · exact ((Sl.newRow w3 [.int .i64 0] 3 1 rfl).alloc (Nat.le_refl _) _).more (by simp)
  · have := Sl.newRow (w3.alloc (.cells #[.int .i64 0] 3)) [.int .i64 95] 3 1 rfl
    have e : (w3.alloc (.cells #[.int .i64 0] 3)).heap.size = w3.heap.size + 1 := by simp
    rw [e] at this
    exact this
  rintro e w5 ⟨A5, c5, rfl, hs5, hb5⟩
  have HS5 := Lib.hid hs5
  clear hs5
  go_wp2_with (first
    | ((with_reducible show wpList _ _ _ (⟨some 2, _, _, _, _, _⟩ :: _) _ _); refine wpList_alloc_ino rfl rfl ?_; intro w6 hr6 hb6 hlt6)
    | ((with_reducible show wpList _ _ _ (⟨none, Op.store 24 (.tmp 2) _, _, _, _, _⟩ :: _) _ _); refine wpList_store_ino rfl _ _ rfl hr6 zIno_len HX0.out rfl rfl ?_; intro w7 hr7 ho7)
    | ((with_reducible show wpList _ _ _ (⟨some 21, _, _, _, _, _⟩ :: _) _ _); refine wpList_load_num rfl _ _ rfl Try.underlying3 hr7 5 95 HX95.out rfl ?_))
  have h5 := In.Sl.only (HS5.out.below hb6) ho7 (Nat.le_refl _)
  have k7 : w5.heap.size ≤ w7.heap.size := Nat.le_trans hb6.size ho7.size
  refine (same_awake _ _ _ _ _ ((h5.alloc k7 _).more (by simp; omega)) (Sl.newRow w7 [.int .i64 90] 3 1 rfl)).mono ?_
  rintro e w8 ⟨rfl, hb8⟩
  go_wp2_with fail
  go_ret
  have k3 : Below w.heap.size w ((w3.alloc (.cells #[.int .i64 0] 3)).alloc (.cells #[.int .i64 95] 3)) := (kk.alloc kk.size _).alloc (by simp; exact Nat.le_succ_of_le kk.size) _
  have k5 := k3.trans (hb5.mono k3.size)
  have k6 := k5.trans (hb6.mono k5.size)
  have k7' := ho7.below k6 k5.size
  have k8 := k7'.alloc k7'.size (.cells #[.int .i64 90] 3)
  exact ⟨rfl, k8.trans (hb8.mono k8.size)⟩
end Go.Proofs.Ytgfhepfikphliaa.Al
