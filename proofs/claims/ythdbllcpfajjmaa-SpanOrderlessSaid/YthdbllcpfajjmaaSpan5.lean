/-
  span: between, Meet, Without; the law's awake.
-/
import Derived.Test.YthdbllcpfajjmaaSpan4
namespace Go.Proofs.Ythdbllcpfajjmaa.Sp
open Fl Go.RowKit Ga Wd
set_option linter.unusedVariables false

def btw (f t : Int) : Int × Int := if f < t then (f, t - f) else (0, 0)
theorem cv_zero : cv (0, 0) = .complex .f64 0 0 := by
  unfold cv
  simp only
  rw [fz0]
theorem between_any {f t : Int} (h1 : 0 ≤ f) (h2 : f ≤ 33554432) (h3 : 0 ≤ t) (h4 : t ≤ 33554432) (w : World) : Calls Try.prog 28 #[.int .i64 f, .int .i64 t] w fun e w' => e = .returned (cv (btw f t)) ∧ w = w' := by
  by_cases h : f < t
  · have := between_yes (f := f) (t := t) (by unfold St; omega) w
    unfold btw
    rw [if_pos h]
    exact this
  · unfold btw
    rw [if_neg h, cv_zero]
    have HM := Lib.hid (fun w => smake_no (a := f) (n := t - f) (by unfold St; omega) w)
    clear h
    go_enter Try.func28, Try.ntmps28
    go_wp2_with fail
    refine (HM.out _).mono ?_
    rintro e w' ⟨rfl, rfl⟩
    go_wp2_with fail
    go_ret
    exact ⟨rfl, rfl⟩
theorem btw_sz {f t : Int} (h1 : 0 ≤ f) (h4 : t ≤ 33554432) : SZ (btw f t) := by
  unfold btw
  split
  · left
    unfold St
    simp only
    omega
  · right
    exact ⟨rfl, rfl⟩
def meetP (p q : Int × Int) : Int × Int := btw (max p.1 q.1) (min (p.1 + p.2) (q.1 + q.2))
theorem meet_any {p q : Int × Int} (hp : St p.1 p.2) (hq : St q.1 q.2) (w : World) : Calls Try.prog 18 #[cv p, cv q] w fun e w' => e = .returned (cv (meetP p q)) ∧ w = w' := by
  have E1 := Lib.hid (fun w => ends_yes hp w)
  have E2 := Lib.hid (fun w => ends_yes hq w)
  have hp' := hp
  have hq' := hq
  unfold St at hp' hq'
  obtain ⟨p1, p2, p3⟩ := hp'
  obtain ⟨q1, q2, q3⟩ := hq'
  have BT := Lib.hid (fun w => between_any (f := max p.1 q.1) (t := min (p.1 + p.2) (q.1 + q.2)) (by omega) (by omega) (by omega) (by omega) w)
  unfold meetP
  generalize btw (max p.1 q.1) (min (p.1 + p.2) (q.1 + q.2)) = r at *
  unfold cv at *
  clear hp hq
  go_enter Try.func18, Try.ntmps18
  go_wp2_with fail
  refine (E1.out _).mono ?_
  rintro e w' ⟨rfl, rfl⟩
  go_wp2_with fail
  refine (E2.out _).mono ?_
  rintro e w' ⟨rfl, rfl⟩
  go_wp2_with fail
  refine (BT.out _).mono ?_
  rintro e w' ⟨rfl, rfl⟩
  go_wp2_with fail
  go_ret
  exact ⟨rfl, rfl⟩
section
variable {ops : Array Oper} {Q : Exit → Act → World → Prop} {a : Act} {w : World} {rest : List Oper} {o : Oper}
theorem wpList_index0 (hg : o.guard = none) (x y : Operand) (ho : o.op = .index 52 x y) {p q r s : Nat} (hx : a.eval x = .agg #[.complex .f64 p q, .complex .f64 r s]) (hy : a.eval y = .int .i64 ((0 : Nat) : Int))
    (hK : wpList Try.prog ops Q rest (a.put o.dst (.complex .f64 p q)) w) : wpList Try.prog ops Q (o :: rest) a w := by
  refine wpList_val (by simp [Region.wanted, hg]) (.complex .f64 p q) w ?_ hK
  clear hK
  unfold execOp
  generalize a.eval = ρ at *
  simp only [ho, hx, hy]
  kernel_rfl
theorem wpList_index1 (hg : o.guard = none) (x y : Operand) (ho : o.op = .index 52 x y) {p q r s : Nat} (hx : a.eval x = .agg #[.complex .f64 p q, .complex .f64 r s]) (hy : a.eval y = .int .i64 ((1 : Nat) : Int))
    (hK : wpList Try.prog ops Q rest (a.put o.dst (.complex .f64 r s)) w) : wpList Try.prog ops Q (o :: rest) a w := by
  refine wpList_val (by simp [Region.wanted, hg]) (.complex .f64 r s) w ?_ hK
  clear hK
  unfold execOp
  generalize a.eval = ρ at *
  simp only [ho, hx, hy]
  kernel_rfl
end
def nz (x : Int × Int) : Ls := if x.2 = 0 then [] else [x]
def withP (p q : Int × Int) : Ls := nz (btw p.1 (min (p.1 + p.2) q.1)) ++ nz (btw (max p.1 (q.1 + q.2)) (p.1 + p.2))
def wlist (x0 x1 : Int × Int) : Nat → Ls
  | 0 => []
  | 1 => nz x0
  | _ => nz x0 ++ nz x1
theorem nz_len (x : Int × Int) : (nz x).length ≤ 1 := by unfold nz; split <;> simp
theorem wlist_len (x0 x1 : Int × Int) : ∀ k, (wlist x0 x1 k).length ≤ 2
  | 0 => Nat.zero_le _
  | 1 => Nat.le_succ_of_le (nz_len x0)
  | k + 2 => by
    show (nz x0 ++ nz x1).length ≤ 2
    rw [List.length_append]
    have := nz_len x0
    have := nz_len x1
    omega
theorem neq_of {x : Int × Int} (h : St x.1 x.2) : (FloatKind.f64.format.order (fz x.2) 0 == some .eq) = false := by
  rw [← fz0, eql_fz h.n.sm (by unfold Sm; decide)]
  unfold St at h
  simp
  omega
set_option maxHeartbeats 1600000 in
theorem without_any {p q : Int × Int} (hp : St p.1 p.2) (hq : St q.1 q.2) (w : World) : Calls Try.prog 19 #[cv p, cv q] w (ResC w (withP p q)) := by
  obtain ⟨i0, hi, hz0, hz1, hz2⟩ := info_parts infoC
  have E1 := Lib.hid (fun w => ends_yes hp w)
  have E2 := Lib.hid (fun w => ends_yes hq w)
  have hp' := hp
  have hq' := hq
  unfold St at hp' hq'
  obtain ⟨p1, p2, p3⟩ := hp'
  obtain ⟨q1, q2, q3⟩ := hq'
  have B0 := Lib.hid (fun w => between_any (f := p.1) (t := min (p.1 + p.2) q.1) (by omega) (by omega) (by omega) (by omega) w)
  have B1 := Lib.hid (fun w => between_any (f := max p.1 (q.1 + q.2)) (t := p.1 + p.2) (by omega) (by omega) (by omega) (by omega) w)
  have x0Z := btw_sz (f := p.1) (t := min (p.1 + p.2) q.1) (by omega) (by omega)
  have x1Z := btw_sz (f := max p.1 (q.1 + q.2)) (t := p.1 + p.2) (by omega) (by omega)
  have hcd : (q.1 == q.1 + q.2) = false := by simp; omega
  have HR : Hid (withP p q = wlist (btw p.1 (min (p.1 + p.2) q.1)) (btw (max p.1 (q.1 + q.2)) (p.1 + p.2)) 2) := rfl
  generalize btw p.1 (min (p.1 + p.2) q.1) = x0 at *
  generalize btw (max p.1 (q.1 + q.2)) (p.1 + p.2) = x1 at *
  generalize withP p q = R at *
  unfold cv at E1 E2 B0 B1 ⊢
  have hl0 := wlist_len x0 x1
  have HL := Lib.hid hl0
  clear hp hq hl0
  go_enter Try.func19, Try.ntmps19
  go_wp2_with fail
  refine (E1.out _).mono ?_
  rintro e w' ⟨rfl, rfl⟩
  go_wp2_with fail
  refine (E2.out _).mono ?_
  rintro e w' ⟨rfl, rfl⟩
  go_wp2_with fail
  refine (B0.out _).mono ?_
  rintro e w' ⟨rfl, rfl⟩
  go_wp2_with fail
  refine (B1.out _).mono ?_
  rintro e w' ⟨rfl, rfl⟩
  go_wp2_with fail
  go_loopw [38, 9] (fun kv lv wr => ∃ k : Nat, k ≤ 2 ∧ kv = .int .i64 (k : Int) ∧ wr.ownsRow w.heap.size 22 1 lv (wlist x0 x1 k).length ((wlist x0 x1 k).map cv) ∧ Below w.heap.size w wr) (fun kv _ _ => 2 - (intOf kv).toNat)
  case atStart => exact ⟨0, by omega, rfl, World.ownsRow_nil _ _ _ _, Below.refl _ _⟩
  case round =>
    obtain ⟨k, hk2, rfl, hown, hbel⟩ := hrel
    have HB := Lib.hid hbel
    have HO := Lib.hid hown
    have hsz := hbel.size
    obtain ⟨Am, cm, rfl, hmc, hcm, hsm⟩ := Mine.form (.inr hown)
    have HSM := Lib.hid hsm
    have hl2 := HL.out k
    clear hbel hown hsm
    rcases (show k = 0 ∨ k = 1 ∨ k = 2 by omega) with rfl | rfl | rfl
    · have hx := x0Z
      rcases hx with hx | hx
      · have n1 := neq_of hx
        have HV : Hid (wlist x0 x1 1 = wlist x0 x1 0 ++ [x0]) := by
          show _ = _
          unfold St at hx
          have hne : x0.2 ≠ 0 := by omega
          simp [wlist, nz, hne]
        clear hx
        go_wp2_with (first | ((with_reducible show wpList _ _ _ (⟨some 40, _, _, _, _, _⟩ :: _) _ _); refine wpList_index0 rfl _ _ rfl rfl rfl ?_) | (at_builtin; refine wpList_append_mine rfl (.tmp 43) (.tmp 45) _ _ rfl w.heap.size 22 i0 (.complex .f64 0 0) 1 16 hz1 hz2 rfl (by decide) _ _ _ rfl (Mine.alloc (.inr HO.out) _) _ 1 [cv x0] rfl (Gives.elem Try.underlying32 hi hz0 hz1 _ rfl) (by simp only [maxLen]; omega) (by omega) (by simp; omega) ?_; intro A5 c5 w5 hm5 hg5 hb5 hat5 hown5))
        have ho5 := hown5 (.inl (by decide))
        have HO5 := Lib.hid ho5
        have HB5 := Lib.hid ((HB.out.alloc hsz _).trans hb5)
        clear ho5 hown5 hat5 hg5 hm5 hb5
        go_wp2_with fail
        go_roundw
        case rel => exact ⟨1, by omega, rfl, by rw [HV.out, List.length_append, List.length_singleton, List.map_append]; exact HO5.out, HB5.out⟩
        case measure => simp [intOf]
      · obtain ⟨e1, e2⟩ := hx
        have HV : Hid (wlist x0 x1 1 = wlist x0 x1 0) := by
          show _ = _
          simp [wlist, nz, e2]
        have n1 : (FloatKind.f64.format.order (fz x0.1) 0 == some .eq) = true := by rw [e1, fz0]; decide +kernel
        have n2 : (FloatKind.f64.format.order (fz x0.2) 0 == some .eq) = true := by rw [e2, fz0]; decide +kernel
        clear e1 e2
        go_wp2_with ((with_reducible show wpList _ _ _ (⟨some 40, _, _, _, _, _⟩ :: _) _ _); refine wpList_index0 rfl _ _ rfl rfl rfl ?_)
        go_roundw
        case rel => exact ⟨1, by omega, rfl, by rw [HV.out]; exact HO.out, HB.out⟩
        case measure => simp [intOf]
    · have hx := x1Z
      rcases hx with hx | hx
      · have n1 := neq_of hx
        have HV : Hid (wlist x0 x1 2 = wlist x0 x1 1 ++ [x1]) := by
          show _ = _
          unfold St at hx
          have hne : x1.2 ≠ 0 := by omega
          simp [wlist, nz, hne]
        clear hx
        go_wp2_with (first | ((with_reducible show wpList _ _ _ (⟨some 40, _, _, _, _, _⟩ :: _) _ _); refine wpList_index1 rfl _ _ rfl rfl rfl ?_) | (at_builtin; refine wpList_append_mine rfl (.tmp 43) (.tmp 45) _ _ rfl w.heap.size 22 i0 (.complex .f64 0 0) 1 16 hz1 hz2 rfl (by decide) _ _ _ rfl (Mine.alloc (.inr HO.out) _) _ 1 [cv x1] rfl (Gives.elem Try.underlying32 hi hz0 hz1 _ rfl) (by simp only [maxLen]; omega) (by omega) (by simp; omega) ?_; intro A5 c5 w5 hm5 hg5 hb5 hat5 hown5))
        have ho5 := hown5 (.inl (by decide))
        have HO5 := Lib.hid ho5
        have HB5 := Lib.hid ((HB.out.alloc hsz _).trans hb5)
        clear ho5 hown5 hat5 hg5 hm5 hb5
        go_wp2_with fail
        go_roundw
        case rel => exact ⟨2, by omega, rfl, by rw [HV.out, List.length_append, List.length_singleton, List.map_append]; exact HO5.out, HB5.out⟩
        case measure => simp [intOf]
      · obtain ⟨e1, e2⟩ := hx
        have HV : Hid (wlist x0 x1 2 = wlist x0 x1 1) := by
          show _ = _
          simp [wlist, nz, e2]
        have n1 : (FloatKind.f64.format.order (fz x1.1) 0 == some .eq) = true := by rw [e1, fz0]; decide +kernel
        have n2 : (FloatKind.f64.format.order (fz x1.2) 0 == some .eq) = true := by rw [e2, fz0]; decide +kernel
        clear e1 e2
        go_wp2_with ((with_reducible show wpList _ _ _ (⟨some 40, _, _, _, _, _⟩ :: _) _ _); refine wpList_index1 rfl _ _ rfl rfl rfl ?_)
        go_roundw
        case rel => exact ⟨2, by omega, rfl, by rw [HV.out]; exact HO.out, HB.out⟩
        case measure => simp [intOf]
    · go_wp2_with fail
      go_ret
      rw [HR.out]
      exact ⟨Am, cm, rfl, HSM.out, hmc, hcm, HB.out, .inr HO.out⟩
end Go.Proofs.Ythdbllcpfajjmaa.Sp

