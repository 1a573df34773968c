/-
  Two lists of stretches are the same; the document's stretches as complex numbers.
-/
import Derived.Test.YtipdaecihfkonaaAll1
import Derived.Test.YtipdaecihfkonaaRely
namespace Go.Proofs.Ytipdaecihfkonaa.Bt
open Fl Go.RowKit Ga Wd Sp By
set_option linter.unusedVariables false

set_option maxHeartbeats 800000 in
theorem same_cs (A1 A2 : Option Addr) (l : Ps) (c1 c2 : Nat) (w : World) (hl : ∀ p ∈ l, St p.1 p.2) (hs1 : Sl w w.heap.size 1 A1 l.length (l.map cv)) (hs2 : Sl w w.heap.size 1 A2 l.length (l.map cv)) (hk : l.length ≤ 1000000) :
    Calls Try.prog 22 #[.slice A1 l.length c1, .slice A2 l.length c2] w fun e w' => e = .returned (.bool true) ∧ Below w.heap.size w w' := by
  have HS1 := Lib.hid hs1
  have HS2 := Lib.hid hs2
  have HL := Lib.hid hl
  clear hs1 hs2 hl
  go_enter Try.func22, Try.ntmps22
  go_wp2_with fail
  go_loopw [5] (fun i wr => ∃ k : Nat, k ≤ l.length ∧ i = .int .i64 (k : Int) ∧ Below w.heap.size w wr) (fun i _ => l.length - (intOf i).toNat)
  case atStart => exact ⟨0, by omega, rfl, Below.refl _ _⟩
  case round =>
    obtain ⟨k, hk2, rfl, hbel⟩ := hrel
    have HB := Lib.hid hbel
    clear hbel
    by_cases hlt : k < l.length
    · have hltI : (k : Int) < (l.length : Int) := by omega
      have hk0 : (0 : Int) ≤ (k : Int) := by omega
      obtain ⟨x, hx⟩ : ∃ x, l[k]? = some x := ⟨_, List.getElem?_eq_getElem hlt⟩
      have hst := HL.out x (List.mem_of_getElem? hx)
      have E1 := Lib.hid (self_fz hst.a.sm)
      have E2 := Lib.hid (self_fz hst.n.sm)
      obtain ⟨b1, o1, rfl, hbb1, hcc1⟩ := (HS1.out).at (by omega) (by decide)
      obtain ⟨b2, o2, rfl, hbb2, hcc2⟩ := (HS2.out).at (by omega) (by decide)
      have hc1 : wr.cell? ⟨b1, o1 + k, none⟩ = some (.complex .f64 (fz x.1) (fz x.2)) := (Below.cell HB.out (p := ⟨b1, o1 + k, none⟩) hbb1).trans (hcc1 k _ (by rw [List.getElem?_map, hx]; rfl))
      have hc2 : wr.cell? ⟨b2, o2 + k, none⟩ = some (.complex .f64 (fz x.1) (fz x.2)) := (Below.cell HB.out (p := ⟨b2, o2 + k, none⟩) hbb2).trans (hcc2 k _ (by rw [List.getElem?_map, hx]; rfl))
      have hb1 := Nat.lt_of_lt_of_le hbb1 HB.out.size
      have hb2 := Nat.lt_of_lt_of_le hbb2 HB.out.size
      have HC1 := Lib.hid hc1
      have HC2 := Lib.hid hc2
      clear hx hst hcc1 hcc2 hc1 hc2
      go_wp2_with fail
      refine wp_region_rely (by kernel_rfl) (fun d u w' => match d with
        | 17 => u = (.slice (some ⟨b1, o1, none⟩) l.length c1 : Value)
        | 18 => u = (.int .i64 (k : Int) : Value)
        | 19 => u = (.pointer (some ⟨b1, o1 + k, none⟩) : Value)
        | 20 => u = (.complex .f64 (fz x.1) (fz x.2) : Value)
        | 21 => u = (.slice (some ⟨b2, o2, none⟩) l.length c2 : Value)
        | 22 => u = (.int .i64 (k : Int) : Value)
        | 23 => u = (.pointer (some ⟨b2, o2 + k, none⟩) : Value)
        | 24 => u = (.complex .f64 (fz x.1) (fz x.2) : Value)
        | 25 => u = (.bool false : Value)
        | _ => True) 26 rfl (by decide +kernel) [25] ?_ ?_
      · refine AllSteps.cons (Step.move _ rfl rfl fun a w' hl => hl.old 0 rfl) ?_
        refine AllSteps.cons (Step.move _ rfl rfl fun a w' hl => hl.old 5 rfl) ?_
        refine AllSteps.cons (Step.plain rfl fun a w' K hl hK => ?_) ?_
        · obtain ⟨_, _, _, h17⟩ := hl.dep 0 17 rfl rfl
          replace h17 : a.eval (.tmp 17) = _ := h17
          obtain ⟨_, _, _, h18⟩ := hl.dep 1 18 rfl rfl
          replace h18 : a.eval (.tmp 18) = _ := h18
          refine wp_val (.pointer (some ⟨b1, o1 + k, none⟩)) ?_ (hK _ _ (Kept.refl _) rfl)
          clear hl hK
          generalize a.eval = ρ at *
          simp [execOp, go_sem, h17, h18]
          try (intro h; omega)
        refine AllSteps.cons (Step.plain rfl fun a w' K hl hK => ?_) ?_
        · obtain ⟨_, _, _, h19⟩ := hl.dep 2 19 rfl rfl
          replace h19 : a.eval (.tmp 19) = _ := h19
          have hcell := (Below.cell hl.kept (p := ⟨b1, o1 + k, none⟩) hb1).trans HC1.out
          refine wp_val (.complex .f64 (fz x.1) (fz x.2)) ?_ (hK _ _ (Kept.refl _) rfl)
          clear hl hK
          generalize a.eval = ρ at *
          simp [execOp, go_sem, h19, hcell]
        refine AllSteps.cons (Step.move _ rfl rfl fun a w' hl => hl.old 1 rfl) ?_
        refine AllSteps.cons (Step.move _ rfl rfl fun a w' hl => hl.old 5 rfl) ?_
        refine AllSteps.cons (Step.plain rfl fun a w' K hl hK => ?_) ?_
        · obtain ⟨_, _, _, h21⟩ := hl.dep 4 21 rfl rfl
          replace h21 : a.eval (.tmp 21) = _ := h21
          obtain ⟨_, _, _, h22⟩ := hl.dep 5 22 rfl rfl
          replace h22 : a.eval (.tmp 22) = _ := h22
          refine wp_val (.pointer (some ⟨b2, o2 + k, none⟩)) ?_ (hK _ _ (Kept.refl _) rfl)
          clear hl hK
          generalize a.eval = ρ at *
          simp [execOp, go_sem, h21, h22]
          try (intro h; omega)
        refine AllSteps.cons (Step.plain rfl fun a w' K hl hK => ?_) ?_
        · obtain ⟨_, _, _, h23⟩ := hl.dep 6 23 rfl rfl
          replace h23 : a.eval (.tmp 23) = _ := h23
          have hcell := (Below.cell hl.kept (p := ⟨b2, o2 + k, none⟩) hb2).trans HC2.out
          refine wp_val (.complex .f64 (fz x.1) (fz x.2)) ?_ (hK _ _ (Kept.refl _) rfl)
          clear hl hK
          generalize a.eval = ρ at *
          simp [execOp, go_sem, h23, hcell]
        refine AllSteps.cons (Step.plain rfl fun a w' K hl hK => ?_) ?_
        · obtain ⟨_, _, _, h20⟩ := hl.dep 3 20 rfl rfl
          replace h20 : a.eval (.tmp 20) = _ := h20
          obtain ⟨_, _, _, h24⟩ := hl.dep 7 24 rfl rfl
          replace h24 : a.eval (.tmp 24) = _ := h24
          refine wp_val (.bool false) ?_ (hK _ _ (Kept.refl _) rfl)
          clear hl hK
          generalize a.eval = ρ at *
          simp [execOp, go_sem, h20, h24, E1.out, E2.out]
        exact AllSteps.nil
      · intro f w9 hk9 hf
        obtain ⟨_, _, hres⟩ := hf 25 rfl rfl
        replace hres : f 25 = .bool false := hres
        simp only [Exit.then, fill, dsts, List.filterMap_cons, List.filterMap_nil, List.foldl_cons, List.foldl_nil, Act.put, hres, List.setIfInBounds_toArray, List.set_cons_succ, List.set_cons_zero]
        clear hf
        have HB9 := Lib.hid (HB.out.trans (Below.mono hk9 HB.out.size))
        clear hk9
        go_wp2_with fail
        go_roundw
        case rel => exact ⟨k + 1, by omega, by go_num, HB9.out⟩
        case measure => simp [intOf]; omega
    · have hge : (l.length : Int) ≤ (k : Int) := by omega
      go_wp2_with fail
      go_ret
      exact ⟨rfl, HB.out⟩
/-- a pair of ends, as a stretch -/
def cq (p : Int × Int) : Int × Int := (p.1, p.2 - p.1)
theorem c_any (p1 p2 : Int) (w : World) (h1 : 0 ≤ p1) (h2 : p1 ≤ 4096) (h3 : 0 ≤ p2) (h4 : p2 ≤ 4096) : Calls Try.prog 37 #[.agg #[.int .i64 p1, .int .i64 p2]] w fun e w' => e = .returned (.complex .f64 (fz p1) (fz (p2 - p1))) ∧ Below w.heap.size w w' := by
  go_enter Try.func37, Try.ntmps37
  go_wp2_with fail
  go_ret
  exact ⟨rfl, (Below.refl _ _).alloc (Nat.le_refl _) _⟩
set_option maxHeartbeats 800000 in
theorem rcs_any (A : Option Addr) (m : Ps) (c : Nat) (w : World) (hs : Sl w w.heap.size 2 A m.length (pcs m)) (hm : ∀ p ∈ m, Bd p) (hk : m.length ≤ 2000) :
    Calls Try.prog 31 #[.slice A m.length c] w (SpR w (m.map cq)) := by
  obtain ⟨i0, hi0, hz0, hz1, hz2⟩ := info_parts infoC
  have HS := Lib.hid hs
  have HM := Lib.hid hm
  clear hs hm
  go_enter Try.func31, Try.ntmps31
  go_wp2_with fail
  go_loopw [4, 3] (fun iv mv wr => ∃ k : Nat, k ≤ m.length ∧ iv = .int .i64 (k : Int) ∧ wr.ownsRow w.heap.size 46 1 mv k (((m.take k).map cq).map cv) ∧ Below w.heap.size w wr) (fun iv _ _ => m.length - (intOf iv).toNat)
  case atStart => exact ⟨0, by omega, rfl, World.ownsRow_nil _ _ _ _, Below.refl _ _⟩
  case round =>
    obtain ⟨k, hk2, rfl, hown, hbel⟩ := hrel
    have HO := Lib.hid hown
    have HB := Lib.hid hbel
    clear hown hbel
    by_cases hlt : k < m.length
    · have hltI : (k : Int) < (m.length : Int) := by omega
      have hk0 : (0 : Int) ≤ (k : Int) := by omega
      obtain ⟨⟨p1, p2⟩, hp⟩ : ∃ p, m[k]? = some p := ⟨_, List.getElem?_eq_getElem hlt⟩
      obtain ⟨q1, q2, q3, q4⟩ := HM.out _ (List.mem_of_getElem? hp)
      obtain ⟨b, off, rfl, hbb, hcc⟩ := HS.out.at (by omega) (by decide)
      have hr0 := (pair_range HS.out hp).1
      have HR : Hid (wr.rangeAt b (off + k * 2) [.int .i64 p1, .int .i64 p2]) := Lib.hid fun j v hj => (Below.cell HB.out (p := ⟨b, off + k * 2 + j, none⟩) hbb).trans (hr0 j v hj)
      have HT : Hid ((m.take (k + 1)).map cq = (m.take k).map cq ++ [(p1, p2 - p1)]) := Lib.hid (by rw [List.take_add_one, hp, List.map_append]; rfl)
      have HC := Lib.hid (fun w => c_any p1 p2 w q1 q2 q3 q4)
      have hB := HB.out.size
      obtain ⟨f1, hf1⟩ : ∃ f, f = fz p1 := ⟨_, rfl⟩
      obtain ⟨f2, hf2⟩ : ∃ f, f = fz (p2 - p1) := ⟨_, rfl⟩
      rw [← hf1, ← hf2] at HC
      have HF1 := Lib.hid hf1
      have HF2 := Lib.hid hf2
      clear hp hcc hr0 q1 q2 q3 q4 hf1 hf2
      go_wp2_with (first
        | ((with_reducible show wpList _ _ _ (⟨some 15, _, _, _, _, _⟩ :: _) _ _); refine wpList_load_range rfl _ rfl rfl HR.out ?_)
        | (go_at_call 37; refine (HC.out _).mono ?_; rintro e w8 ⟨rfl, hb8⟩; replace HO := Lib.hid (own_bel HO.out hb8); replace HB := Lib.hid (HB.out.trans (hb8.mono hB)); have hB8 := Nat.le_trans hB hb8.size; clear hb8)
        | (at_builtin; refine wpList_append_mine rfl (.tmp 11) (.tmp 17) _ _ rfl w.heap.size 46 i0 (.complex .f64 0 0) 1 16 hz1 hz2 rfl (by decide) _ _ _ rfl (Mine.alloc (.inr HO.out) _) _ 1 [.complex .f64 f1 f2] rfl (Gives.elem Try.underlying41 hi0 hz0 hz1 _ rfl) (by simp only [maxLen]; omega) (by omega) (by simp; omega) ?_; intro A9 c9 w9 hm9 hg9 hb9 hat9 hown9; have HO9 := Lib.hid (hown9 (.inl (by decide))); have HB9 := Lib.hid ((HB.out.alloc hB8 _).trans hb9); clear hm9 hg9 hb9 hat9 hown9))
      go_roundw
      case rel => exact ⟨k + 1, by omega, by go_num, by rw [HT.out, List.map_append]; simpa [cv, HF1.out, HF2.out] using HO9.out, HB9.out⟩
      case measure => simp [intOf]; omega
    · have hge : (m.length : Int) ≤ (k : Int) := by omega
      obtain rfl : k = m.length := by omega
      have HO2 : Hid (wr.ownsRow w.heap.size 46 1 u3 (m.map cq).length ((m.map cq).map cv)) := Lib.hid (by
        have := HO.out
        rw [List.take_of_length_le (Nat.le_refl _)] at this
        rw [List.length_map]
        exact this)
      go_wp2_with fail
      go_ret
      exact spr_own HO2.out HB.out
end Go.Proofs.Ytipdaecihfkonaa.Bt
