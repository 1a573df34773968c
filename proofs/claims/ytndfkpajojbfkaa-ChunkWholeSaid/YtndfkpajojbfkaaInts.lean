/-
  Lists of ints: when two are the same.
-/
import Derived.Test.YtndfkpajojbfkaaWords
import Derived.Test.YtndfkpajojbfkaaRows
import Derived.LoopTactic
import Derived.Deep.QuietTactic
import Derived.BigQuiet
namespace Go.Proofs.Ytndfkpajojbfkaa.Is
open Go.RowKit Wd
set_option linter.unusedVariables false

theorem infoI : (Try.prog.info? 3).map (fun i => (i.zero, i.size, i.bytes)) = some (some (.int .i64 0), 1, 8) := by kernel_rfl
theorem bel_drewN {B : Nat} {a w : World} (h : Below B a w) (n : Nat) : Below B a (w.drewN n) := ⟨h.os, h.tape, h.output, h.size, h.block⟩
theorem take_next {xs ys : List Int} {n : Nat} {v : Int} (h : xs.take n = ys.take n) (hx : xs[n]? = some v) (hy : ys[n]? = some v) : xs.take (n + 1) = ys.take (n + 1) := by
  rw [List.take_add_one, List.take_add_one, hx, hy, h]
theorem iv_one : ∀ l : List Int, ∀ u ∈ l.map (Value.int .i64), u.oneCell' = true := fun l u hu => by
  obtain ⟨_, _, rfl⟩ := List.mem_map.1 hu
  rfl
theorem eq_take_all {l m : List Int} {i : Nat} (hi : i = l.length) (hl : l.length = m.length) (h : l.take i = m.take i) : (l == m) = true := by
  rw [hi, List.take_of_length_le (Nat.le_refl _), List.take_of_length_le (by omega)] at h
  simp [h]
theorem ne_at {l m : List Int} {i : Nat} {x y : Int} (hx : l[i]? = some x) (hy : m[i]? = some y) (h : ¬ x = y) : (l == m) = false := by
  rw [beq_eq_false_iff_ne]
  intro e
  rw [e, hy] at hx
  injection hx with hx
  exact h hx.symm
set_option maxRecDepth 100000 in
set_option maxHeartbeats 800000 in
theorem same_any (A B : Option Addr) (l m : List Int) (c d : Nat) (w : World) (hl : Sl w w.heap.size 1 A l.length (l.map (Value.int .i64))) (hm : Sl w w.heap.size 1 B m.length (m.map (Value.int .i64))) (hb : l.length ≤ 140737488355328) (hb2 : m.length ≤ 140737488355328) :
    Calls Try.prog 15 #[.slice A l.length c, .slice B m.length d] w fun e w' => e = .returned (.bool (l == m)) ∧ Below w.heap.size w w' := by
  by_cases hlen : l.length = m.length
  · have hne : ((l.length : Int) != (m.length : Int)) = false := by rw [hlen]; simp
    have HLEN := Lib.hid hlen
    have HL := Lib.hid hl
    have HM := Lib.hid hm
    clear hlen hl hm
    go_enter Try.func15, Try.ntmps15
    go_wp2
    go_loopw [5] (fun j wr => ∃ i : Nat, i ≤ l.length ∧ j = .int .i64 (i : Int) ∧ l.take i = m.take i ∧ Below w.heap.size w wr) (fun j _ => l.length - (intOf j).toNat)
    case atStart => exact ⟨0, by omega, rfl, by simp, Below.refl _ _⟩
    case round =>
      obtain ⟨i, hi, rfl, ht, hbel⟩ := hrel
      have HT := Lib.hid ht
      have HB := Lib.hid hbel
      clear ht hbel
      by_cases hlt : i < l.length
      · have hltI : (i : Int) < (l.length : Int) := by omega
        have hltm : i < m.length := by rw [← HLEN.out]; exact hlt
        have hltmI : (i : Int) < (m.length : Int) := by omega
        obtain ⟨x, hx⟩ : ∃ z, l[i]? = some z := ⟨_, List.getElem?_eq_getElem hlt⟩
        obtain ⟨y, hy⟩ : ∃ z, m[i]? = some z := ⟨_, List.getElem?_eq_getElem hltm⟩
        obtain ⟨bp, op, rfl, hbp, hcp⟩ := (HL.out.below HB.out).at (by omega) (by decide)
        obtain ⟨bt, ot, rfl, hbt, hct⟩ := (HM.out.below HB.out).at (by omega) (by decide)
        have hc1 := hcp i (.int .i64 x) (by simp [hx])
        have hc2 := hct i (.int .i64 y) (by simp [hy])
        have HX := Lib.hid hx
        have HY := Lib.hid hy
        clear hcp hct hbp hbt hx hy
        by_cases hxy : x = y
        · have hxb : (x != y) = false := by simp [hxy]
          have HXY := Lib.hid hxy
          clear hxy
          go_wp2
          go_quiet (fail)
          go_wp2
          go_roundw
          case measure => simp [intOf]; omega
          case rel => exact ⟨i + 1, by omega, by simp, take_next HT.out HX.out (by rw [HXY.out]; exact HY.out), bel_drewN HB.out _⟩
        · have hxb : (x != y) = true := by simp [hxy]
          have HXY := Lib.hid hxy
          clear hxy
          go_wp2
          go_quiet (fail)
          go_wp2
          go_ret
          rw [ne_at HX.out HY.out HXY.out]
          exact ⟨rfl, bel_drewN HB.out _⟩
      · have hge : (l.length : Int) ≤ (i : Int) := by omega
        have HI : Hid (i = l.length) := by show _ = _; omega
        go_wp2
        go_ret
        rw [eq_take_all HI.out HLEN.out HT.out]
        exact ⟨rfl, HB.out⟩
  · have hne : ((l.length : Int) != (m.length : Int)) = true := by simp; omega
    have hf : (l == m) = false := by
      rw [beq_eq_false_iff_ne]
      intro e
      exact hlen (by rw [e])
    rw [hf]
    clear hf hlen
    go_enter Try.func15, Try.ntmps15
    go_wp2
    go_ret
    exact ⟨rfl, Below.refl _ _⟩

end Go.Proofs.Ytndfkpajojbfkaa.Is
