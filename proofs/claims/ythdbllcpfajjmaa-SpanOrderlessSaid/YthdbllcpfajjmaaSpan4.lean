/-
  span's law: copies, sameness, the list out of numbers; between, Meet, Without; awake.
-/
import Derived.Test.YthdbllcpfajjmaaNorm
import Derived.Test.YthdbllcpfajjmaaHasS
import Derived.Test.YthdbllcpfajjmaaPlace
import Derived.Test.YthdbllcpfajjmaaRelyE
namespace Go.Proofs.Ythdbllcpfajjmaa.Sp
open Fl Go.RowKit Ga Wd We
set_option linter.unusedVariables false

def ResC (w : World) (l : Ls) (e : Ending) (w' : World) : Prop :=
  ∃ A c, e = .returned (.slice A l.length c) ∧ Sl w' w'.heap.size 1 A l.length (l.map cv) ∧ l.length ≤ c ∧ c ≤ maxLen ∧ Below w.heap.size w w' ∧ Mine w' w.heap.size 22 1 (.slice A l.length c) l.length (l.map cv)
theorem cs_any (A : Option Addr) (l : Ls) (c : Nat) (w : World) (hs : Sl w w.heap.size 1 A l.length (l.map cv)) (hk : l.length ≤ 1000000) :
    Calls Try.prog 15 #[.slice A l.length c] w (ResC w l) := by
  obtain ⟨i0, hi, hz0, hz1, hz2⟩ := info_parts infoC
  go_enter Try.func15, Try.ntmps15
  go_wp2_with (at_builtin; refine wpList_append_mine rfl _ (.tmp 3) _ _ rfl w.heap.size 22 i0 (.complex .f64 0 0) 1 16 hz1 hz2 rfl (by decide) _ _ _ rfl Mine.nil _ l.length (l.map cv) rfl (Gives.slice Try.underlying32 hi hz0 (by rw [hz1]; exact hs) (cv_one l)) (by simp only [maxLen]; omega) (by omega) (Nat.le_refl _) ?_; intro A3 c3 w3 hm3 hg3 hb3 hat3 hown3)
  go_ret
  rw [List.nil_append] at hm3
  have hm := hm3
  obtain ⟨A4, c4, hv, hc4, hm4, hs4⟩ := hm3.form
  injection hv with hv1 hv2 hv3
  subst hv1; subst hv3
  rw [Nat.zero_add] at hc4 hs4 hm
  exact ⟨A3, c3, rfl, hs4, hc4, hm4, hb3, hm⟩
set_option maxHeartbeats 800000 in
theorem same_any (A1 A2 : Option Addr) (l : Ls) (c1 c2 : Nat) (w : World) (hl : AllSt l) (hs1 : Sl w w.heap.size 1 A1 l.length (l.map cv)) (hs2 : Sl w w.heap.size 1 A2 l.length (l.map cv)) (hk : l.length ≤ 1000000) :
    Calls Try.prog 17 #[.slice A1 l.length c1, .slice A2 l.length c2] w fun e w' => e = .returned (.bool true) ∧ Below w.heap.size w w' := by
  have HS1 := Lib.hid hs1
  have HS2 := Lib.hid hs2
  have HL := Lib.hid hl
  clear hs1 hs2 hl
  go_enter Try.func17, Try.ntmps17
  go_wp2_with fail
  go_loopw [5] (fun i wr => ∃ k : Nat, k ≤ l.length ∧ i = .int .i64 (k : Int) ∧ Below w.heap.size w wr) (fun i _ => l.length - (intOf i).toNat)
  case atStart => exact ⟨0, by omega, rfl, Below.refl _ _⟩
  case round =>
    obtain ⟨k, hk2, rfl, hbel⟩ := hrel
    have HB := Lib.hid hbel
    clear hbel
    by_cases hlt : k < l.length
    · have hltI : (k : Int) < (l.length : Int) := by omega
      have hk0 : (0 : Int) ≤ (k : Int) := by omega
      obtain ⟨x, hx⟩ : ∃ x, l[k]? = some x := ⟨_, List.getElem?_eq_getElem hlt⟩
      have hst := HL.out x (List.mem_of_getElem? hx)
      have E1 := Lib.hid (self_fz hst.a.sm)
      have E2 := Lib.hid (self_fz hst.n.sm)
      obtain ⟨b1, o1, rfl, hbb1, hcc1⟩ := (HS1.out).at (by omega) (by decide)
      obtain ⟨b2, o2, rfl, hbb2, hcc2⟩ := (HS2.out).at (by omega) (by decide)
      have hc1 : wr.cell? ⟨b1, o1 + k, none⟩ = some (.complex .f64 (fz x.1) (fz x.2)) := (Below.cell HB.out (p := ⟨b1, o1 + k, none⟩) hbb1).trans (hcc1 k _ (by rw [List.getElem?_map, hx]; rfl))
      have hc2 : wr.cell? ⟨b2, o2 + k, none⟩ = some (.complex .f64 (fz x.1) (fz x.2)) := (Below.cell HB.out (p := ⟨b2, o2 + k, none⟩) hbb2).trans (hcc2 k _ (by rw [List.getElem?_map, hx]; rfl))
      have hb1 := Nat.lt_of_lt_of_le hbb1 HB.out.size
      have hb2 := Nat.lt_of_lt_of_le hbb2 HB.out.size
      have HC1 := Lib.hid hc1
      have HC2 := Lib.hid hc2
      clear hx hst hcc1 hcc2 hc1 hc2
      go_wp2_with fail
      refine wp_region_rely (by kernel_rfl) (fun d u w' => match d with
        | 17 => u = (.slice (some ⟨b1, o1, none⟩) l.length c1 : Value)
        | 18 => u = (.int .i64 (k : Int) : Value)
        | 19 => u = (.pointer (some ⟨b1, o1 + k, none⟩) : Value)
        | 20 => u = (.complex .f64 (fz x.1) (fz x.2) : Value)
        | 21 => u = (.slice (some ⟨b2, o2, none⟩) l.length c2 : Value)
        | 22 => u = (.int .i64 (k : Int) : Value)
        | 23 => u = (.pointer (some ⟨b2, o2 + k, none⟩) : Value)
        | 24 => u = (.complex .f64 (fz x.1) (fz x.2) : Value)
        | 25 => u = (.bool false : Value)
        | _ => True) 26 rfl (by decide +kernel) [25] ?_ ?_
      · refine AllSteps.cons (Step.move _ rfl rfl fun a w' hl => hl.old 0 rfl) ?_
        refine AllSteps.cons (Step.move _ rfl rfl fun a w' hl => hl.old 5 rfl) ?_
        refine AllSteps.cons (Step.plain rfl fun a w' K hl hK => ?_) ?_
        · obtain ⟨_, _, _, h17⟩ := hl.dep 0 17 rfl rfl
          replace h17 : a.eval (.tmp 17) = _ := h17
          obtain ⟨_, _, _, h18⟩ := hl.dep 1 18 rfl rfl
          replace h18 : a.eval (.tmp 18) = _ := h18
          refine wp_val (.pointer (some ⟨b1, o1 + k, none⟩)) ?_ (hK _ _ (Kept.refl _) rfl)
          clear hl hK
          generalize a.eval = ρ at *
          simp [execOp, go_sem, h17, h18]
          try (intro h; omega)
        refine AllSteps.cons (Step.plain rfl fun a w' K hl hK => ?_) ?_
        · obtain ⟨_, _, _, h19⟩ := hl.dep 2 19 rfl rfl
          replace h19 : a.eval (.tmp 19) = _ := h19
          have hcell := (Below.cell hl.kept (p := ⟨b1, o1 + k, none⟩) hb1).trans HC1.out
          refine wp_val (.complex .f64 (fz x.1) (fz x.2)) ?_ (hK _ _ (Kept.refl _) rfl)
          clear hl hK
          generalize a.eval = ρ at *
          simp [execOp, go_sem, h19, hcell]
        refine AllSteps.cons (Step.move _ rfl rfl fun a w' hl => hl.old 1 rfl) ?_
        refine AllSteps.cons (Step.move _ rfl rfl fun a w' hl => hl.old 5 rfl) ?_
        refine AllSteps.cons (Step.plain rfl fun a w' K hl hK => ?_) ?_
        · obtain ⟨_, _, _, h21⟩ := hl.dep 4 21 rfl rfl
          replace h21 : a.eval (.tmp 21) = _ := h21
          obtain ⟨_, _, _, h22⟩ := hl.dep 5 22 rfl rfl
          replace h22 : a.eval (.tmp 22) = _ := h22
          refine wp_val (.pointer (some ⟨b2, o2 + k, none⟩)) ?_ (hK _ _ (Kept.refl _) rfl)
          clear hl hK
          generalize a.eval = ρ at *
          simp [execOp, go_sem, h21, h22]
          try (intro h; omega)
        refine AllSteps.cons (Step.plain rfl fun a w' K hl hK => ?_) ?_
        · obtain ⟨_, _, _, h23⟩ := hl.dep 6 23 rfl rfl
          replace h23 : a.eval (.tmp 23) = _ := h23
          have hcell := (Below.cell hl.kept (p := ⟨b2, o2 + k, none⟩) hb2).trans HC2.out
          refine wp_val (.complex .f64 (fz x.1) (fz x.2)) ?_ (hK _ _ (Kept.refl _) rfl)
          clear hl hK
          generalize a.eval = ρ at *
          simp [execOp, go_sem, h23, hcell]
        refine AllSteps.cons (Step.plain rfl fun a w' K hl hK => ?_) ?_
        · obtain ⟨_, _, _, h20⟩ := hl.dep 3 20 rfl rfl
          replace h20 : a.eval (.tmp 20) = _ := h20
          obtain ⟨_, _, _, h24⟩ := hl.dep 7 24 rfl rfl
          replace h24 : a.eval (.tmp 24) = _ := h24
          refine wp_val (.bool false) ?_ (hK _ _ (Kept.refl _) rfl)
          clear hl hK
          generalize a.eval = ρ at *
          simp [execOp, go_sem, h20, h24, E1.out, E2.out]
        exact AllSteps.nil
      · intro f w9 hk9 hf
        obtain ⟨_, _, hres⟩ := hf 25 rfl rfl
        replace hres : f 25 = .bool false := hres
        simp only [Exit.then, fill, dsts, List.filterMap_cons, List.filterMap_nil, List.foldl_cons, List.foldl_nil, Act.put, hres, List.setIfInBounds_toArray, List.set_cons_succ, List.set_cons_zero]
        clear hf
        have HB9 := Lib.hid (HB.out.trans (Below.mono hk9 HB.out.size))
        clear hk9
        go_wp2_with fail
        go_roundw
        case rel => exact ⟨k + 1, by omega, by go_num, HB9.out⟩
        case measure => simp [intOf]; omega
    · have hge : (l.length : Int) ≤ (k : Int) := by omega
      go_wp2_with fail
      go_ret
      exact ⟨rfl, HB.out⟩
/-- the stretches out of numbers -/
def pairM (l : List Int) (k : Nat) : Int × Int := (Pl.placeZ (l.getD (2 * k) 0) 200, 1 + Pl.placeZ (l.getD (2 * k + 1) 0) 20)
def listM (l : List Int) : Ls := (List.range (min (l.length / 2) 20)).map (pairM l)
theorem pair_st (l : List Int) (k : Nat) : St (pairM l k).1 (pairM l k).2 ∧ (pairM l k).1 + (pairM l k).2 ≤ 219 := by
  have h1 := Pl.place_bd (l.getD (2 * k) 0) 200 (by omega)
  have h2 := Pl.place_bd (l.getD (2 * k + 1) 0) 20 (by omega)
  unfold pairM St
  simp only
  omega
theorem list_st (l : List Int) : AllSt (listM l) := fun p hp => by
  obtain ⟨k, _, rfl⟩ := List.mem_map.1 hp
  exact (pair_st l k).1
theorem list_end (l : List Int) : ∀ p ∈ listM l, p.1 + p.2 ≤ 219 := fun p hp => by
  obtain ⟨k, _, rfl⟩ := List.mem_map.1 hp
  exact (pair_st l k).2
theorem list_len (l : List Int) : (listM l).length ≤ 20 := by
  unfold listM
  rw [List.length_map, List.length_range]
  omega
section
variable {Q : Exit → Act → World → Prop} {o : Oper}
theorem own_keepC {w w' : World} {b : Nat} {e : TypeId} {size n : Nat} {v : Value} {xs : List Value} (h : w.ownsRow b e size v n xs) (hk : ∀ g, v.ownBlock = some g → w'.heap[g]? = w.heap[g]?) : w'.ownsRow b e size v n xs := by
  refine ⟨h.1, ?_⟩
  rcases h.2 with hn | ⟨g, cap, cur, rfl, hb, hgg, rest⟩
  · exact .inl hn
  · exact .inr ⟨g, cap, cur, rfl, hb, (hk g rfl).trans hgg, rest⟩
theorem cell_one (w : World) (v : Value) (t : TypeId) : (w.alloc (.cells #[v] t)).cell? ⟨w.heap.size, 0, none⟩ = some v := by
  rw [cell_of_row _ _ _ _ _ (0, 0) (heap_alloc_new w _)]
  rfl
theorem Kept.alloc (w : World) (ob : Obj) : Kept w (w.alloc ob) := (Below.refl _ _).alloc (Nat.le_refl _) ob
theorem OneC.kept {m : Ls} {x : Int × Int} {B0 : Nat} {u : Value} {w w' : World} (h : ∃ A c, u = .slice A (m.length + 1) c ∧ w.ownsRow B0 22 1 u (m.length + 1) ((m ++ [x]).map cv)) (hk : Kept w w') :
    ∃ A c, u = .slice A (m.length + 1) c ∧ w'.ownsRow B0 22 1 u (m.length + 1) ((m ++ [x]).map cv) := by
  obtain ⟨A, c, rfl, ho⟩ := h
  exact ⟨A, c, rfl, own_keepC ho fun g hg => hk.block g (own_lt ho g hg).2⟩
theorem wp_build_one {a : Act} {w : World} {K : Act → World → Prop} {x : Operand} (ho : o.op = .buildSlice 32 1 #[(0, x)]) {p q : Nat} (hx : a.eval x = .complex .f64 p q)
    (h : K (a.put o.dst (.slice (some ⟨w.heap.size, 0, none⟩) 1 1)) (w.alloc (.cells #[.complex .f64 p q] 22))) : Oper.wp Try.prog o a w K Q := by
  have hr : (execOp a.eval o).run Try.prog w = .ok (.value (.slice (some ⟨w.heap.size, 0, none⟩) 1 1)) (w.alloc (.cells #[.complex .f64 p q] 22)) := by
    clear h
    unfold execOp
    generalize a.eval = ρ at *
    simp [ho, hx, go_sem]
  unfold Oper.wp
  rw [hr]
  exact h
theorem wp_append_one {a : Act} {w : World} {K : Act → World → Prop} {s y : Operand} (ho : o.op = .call { callee := .builtin .append, args := #[s, y], argTypes := #[32, 32] })
    (b : Nat) (hb : b ≤ w.heap.size) {A : Option Addr} {c g : Nat} {m : Ls} {u0 : Value} (hs : a.eval s = .slice A m.length c) (hy : a.eval y = .slice (some ⟨g, 0, none⟩) 1 1)
    (hL : w.ownsRow b 22 1 (.slice A m.length c) m.length (m.map cv)) (hc : w.cell? ⟨g, 0, none⟩ = some u0) (hlen : m.length ≤ 1000000) (x : Int × Int) (hu : u0 = cv x)
    (hK : ∀ u w', (∃ A c, u = .slice A (m.length + 1) c ∧ w'.ownsRow b 22 1 u (m.length + 1) ((m ++ [x]).map cv)) → Below b w w' → (∀ k, k < w.heap.size → (Value.slice A m.length c).ownBlock ≠ some k → w'.heap[k]? = w.heap[k]?) → K (a.put o.dst u) w') : Oper.wp Try.prog o a w K Q := by
  obtain ⟨i0, hi, hz0, hz1, hz2⟩ := info_parts infoC
  have hsl : Sl w w.heap.size 1 (some ⟨g, 0, none⟩) 1 [cv x] := ⟨rfl, fun _ => ⟨_, rfl, World.block_lt_of_cell? _ _ hc, fun j u hj => by
    match j, hj with
    | 0, hj =>
      injection hj with hj
      subst hj
      rw [Addr.add_lit, hc, hu]⟩⟩
  obtain ⟨v', w', hr, h1, h2, h3, h4, h5⟩ := run_append_mine (P := Try.prog) w b 32 32 o.type 22 i0 (.complex .f64 0 0) 1 16 hz1 hz2 rfl (by decide) _ _ _ (.inr hL) (.slice (some ⟨g, 0, none⟩) 1 1) 1 [cv x]
    (Gives.slice Try.underlying32 hi hz0 (by rw [hz1]; exact hsl) (fun u hu => by simp at hu; subst hu; rfl)) (by simp only [maxLen]; omega) (by omega) hb
  have hown := h5 (.inl (by decide))
  obtain ⟨A', c', rfl, _⟩ := h1.form
  unfold Oper.wp execOp
  simp only [ho, resolve, invoke, builtin, Sem.run_bind, Sem.run_pure, Result.andThen_ok, List.map_toArray, List.map_cons, List.map_nil, hs, hy, hr]
  refine hK _ w' ⟨A', c', rfl, by simpa using hown⟩ h3 fun k hk hne => h2.block k hk (fun e => hne e.symm)
end
set_option maxRecDepth 100000 in
set_option maxHeartbeats 1600000 in
theorem list_any (A : Option Addr) (l : List Int) (c : Nat) (w : World) (hs : Sl w w.heap.size 1 A l.length (l.map (Value.int .i64))) (hk : l.length ≤ 17592186044416) (hb : ∀ x ∈ l, -9223372036854775808 ≤ x ∧ x ≤ 9223372036854775807) :
    Calls Try.prog 13 #[.slice A l.length c] w (ResC w (listM l)) := by
  have HS := Lib.hid hs
  have HBD := Lib.hid hb
  obtain ⟨n, hn⟩ : ∃ n, n = min (l.length / 2) 20 := ⟨_, rfl⟩
  have HN := Lib.hid hn
  have hn1 : n ≤ 20 := by omega
  have hn2 : 2 * n ≤ l.length := by omega
  have hn3 : l.length ≤ 2 * n + 1 ∨ n = 20 := by omega
  clear hs hb hn
  go_enter Try.func13, Try.ntmps13
  go_wp2_with fail
  go_loopw [3, 4] (fun mv iv wr => ∃ (k i : Nat), k ≤ n ∧ 2 * k ≤ i ∧ i ≤ 2 * k ∧ iv = .int .i64 (i : Int) ∧ wr.ownsRow w.heap.size 22 1 mv k (((List.range k).map (pairM l)).map cv) ∧ Below w.heap.size w wr) (fun _ iv _ => 41 - (intOf iv).toNat)
  case atStart => exact ⟨0, 0, by omega, by omega, by omega, rfl, World.ownsRow_nil _ _ _ _, Below.refl _ _⟩
  case round =>
    obtain ⟨k, i, hkn, hki1, hki2, rfl, hown, hbel⟩ := hrel
    have HB := Lib.hid hbel
    have hsz := hbel.size
    obtain ⟨Am, cm, rfl, hmc, hcm, hsm⟩ := Mine.form (.inr hown)
    obtain ⟨m, hm⟩ : ∃ m, m = (List.range k).map (pairM l) := ⟨_, rfl⟩
    have hml : k = m.length := by rw [hm]; simp
    rw [← hm] at hown
    have HM := Lib.hid hm
    by_cases hlt : k < n
    · have hltI : (i : Int) + 1 < (l.length : Int) := by omega
      have hlt40 : (i : Int) < 40 := by omega
      have hi0 : (0 : Int) ≤ (i : Int) := by omega
      have hi1 : (i : Int) < (l.length : Int) := by omega
      obtain ⟨z1, hz1⟩ : ∃ z, l[i]? = some z := ⟨_, List.getElem?_eq_getElem (by omega)⟩
      obtain ⟨z2, hz2⟩ : ∃ z, l[i + 1]? = some z := ⟨_, List.getElem?_eq_getElem (by omega)⟩
      have hzb1 := HBD.out z1 (List.mem_of_getElem? hz1)
      have hzb2 := HBD.out z2 (List.mem_of_getElem? hz2)
      have Pq1 := Lib.hid (fun w => Pl.place_any z1 200 w (by omega) (by omega) hzb1.1 hzb1.2)
      have Pq2 := Lib.hid (fun w => Pl.place_any z2 20 w (by omega) (by omega) hzb2.1 hzb2.2)
      have bq1 := Pl.place_bd z1 200 (by omega)
      have bq2 := Pl.place_bd z2 20 (by omega)
      have hpe : pairM l k = (Pl.placeZ z1 200, 1 + Pl.placeZ z2 20) := by
        obtain rfl : i = 2 * k := by omega
        unfold pairM
        rw [List.getD_eq_getElem?_getD, List.getD_eq_getElem?_getD, hz1, hz2]
        rfl
      generalize Pl.placeZ z1 200 = q1 at *
      generalize Pl.placeZ z2 20 = q2 at *
      obtain ⟨q10, q11⟩ := bq1
      obtain ⟨q20, q21⟩ := bq2
      obtain ⟨x, hxe⟩ : ∃ x, x = pairM l k := ⟨_, rfl⟩
      have HX : Hid (Value.complex .f64 (floatOfInt .f64 q1) (floatOfInt .f64 (1 + q2)) = cv x) := by
        show _ = _
        rw [hxe, hpe]
        rfl
      have HXE := Lib.hid hxe
      obtain ⟨b0, off, rfl, hbb, hcc⟩ := HS.out.at (by omega) (by decide)
      have HC1 := Lib.hid ((Below.cell HB.out (p := ⟨b0, off + i, none⟩) hbb).trans (hcc i (.int .i64 z1) (by rw [List.getElem?_map, hz1]; rfl)))
      have HC2 := Lib.hid ((Below.cell HB.out (p := ⟨b0, off + (i + 1), none⟩) hbb).trans (hcc (i + 1) (.int .i64 z2) (by rw [List.getElem?_map, hz2]; rfl)))
      subst hml
      obtain ⟨B0, hB0⟩ : ∃ B0, B0 = w.heap.size := ⟨_, rfl⟩
      have hb0 : b0 < B0 := by rw [hB0]; exact hbb
      rw [← hB0] at hown hsz
      have HO := Lib.hid hown
      have HB0 := Lib.hid hsz
      have hm41 : m.length ≤ 1000000 := by omega
      have HBE := Lib.hid hB0
      clear hz1 hz2 hzb1 hzb2 hpe hxe hcc hown hsm hB0 hm
      go_wp2_with fail
      refine wp_region_e B0 HB0.out (by kernel_rfl) (fun d u w' => match d with
        | 3 => ∃ A c, u = .slice A (m.length + 1) c ∧ w'.ownsRow B0 22 1 u (m.length + 1) ((m ++ [x]).map cv)
        | 16 => u = (.slice Am m.length cm : Value)
        | 17 => u = (.slice (some ⟨b0, off, none⟩) l.length c : Value)
        | 18 => u = (.int .i64 (i : Int) : Value)
        | 19 => u = (.pointer (some ⟨b0, off + i, none⟩) : Value)
        | 20 => u = (.int .i64 z1 : Value)
        | 21 => u = (.int .i64 q1 : Value)
        | 22 => u = (.float .f64 (floatOfInt .f64 q1) : Value)
        | 23 => u = (.slice (some ⟨b0, off, none⟩) l.length c : Value)
        | 24 => u = (.int .i64 (i : Int) : Value)
        | 25 => u = (.int .i64 ((i : Int) + 1) : Value)
        | 26 => u = (.pointer (some ⟨b0, off + (i + 1), none⟩) : Value)
        | 27 => u = (.int .i64 z2 : Value)
        | 28 => u = (.int .i64 q2 : Value)
        | 29 => u = (.int .i64 (1 + q2) : Value)
        | 30 => u = (.float .f64 (floatOfInt .f64 (1 + q2)) : Value)
        | 31 => u = (.complex .f64 (floatOfInt .f64 q1) (floatOfInt .f64 (1 + q2)) : Value)
        | 32 => ∃ g, u = .slice (some ⟨g, 0, none⟩) 1 1 ∧ B0 ≤ g ∧ g < w'.heap.size ∧ w'.cell? ⟨g, 0, none⟩ = some (.complex .f64 (floatOfInt .f64 q1) (floatOfInt .f64 (1 + q2)))
        | 33 => ∃ A c, u = .slice A (m.length + 1) c ∧ w'.ownsRow B0 22 1 u (m.length + 1) ((m ++ [x]).map cv)
        | _ => True) 35 rfl (by decide +kernel) [3] 17 (fun w => w.ownsRow B0 22 1 (.slice Am m.length cm) m.length (m.map cv)) HO.out (fun x y hk ho => own_keepC ho fun g hg => hk.block g (own_lt ho g hg).2) ?_ ?_
      · refine AllSteps.cons (StepE.move _ rfl rfl fun a w' hl => hl.early 18 3 rfl rfl) ?_
        refine AllSteps.cons (StepE.move _ rfl rfl fun a w' hl => hl.old 0 rfl) ?_
        refine AllSteps.cons (StepE.move _ rfl rfl fun a w' hl => hl.old 4 rfl) ?_
        refine AllSteps.cons (StepE.plain rfl fun a w' K hl hK => ?_) ?_
        · obtain ⟨_, _, _, h17⟩ := hl.dep 1 17 rfl rfl
          replace h17 : a.eval (.tmp 17) = _ := h17
          obtain ⟨_, _, _, h18⟩ := hl.dep 2 18 rfl rfl
          replace h18 : a.eval (.tmp 18) = _ := h18
          refine wp_val (.pointer (some ⟨b0, off + i, none⟩)) ?_ (hK _ _ (Kept.refl _) rfl)
          clear hl hK
          generalize a.eval = ρ at *
          simp [execOp, go_sem, h17, h18]
          try (intro h; omega)
        refine AllSteps.cons (StepE.plain rfl fun a w' K hl hK => ?_) ?_
        · obtain ⟨_, _, _, h19⟩ := hl.dep 3 19 rfl rfl
          replace h19 : a.eval (.tmp 19) = _ := h19
          have hcell := (Below.cell hl.kept (p := ⟨b0, off + i, none⟩) hb0).trans HC1.out
          refine wp_val (.int .i64 z1) ?_ (hK _ _ (Kept.refl _) rfl)
          clear hl hK
          generalize a.eval = ρ at *
          simp [execOp, go_sem, h19, hcell]
        refine AllSteps.cons (StepE.plain rfl fun a w' K hl hK => ?_) ?_
        · obtain ⟨_, _, _, h20⟩ := hl.dep 4 20 rfl rfl
          replace h20 : a.eval (.tmp 20) = _ := h20
          refine wp_call rfl Try.func16 rfl rfl #[.int .i64 z1, .int .i64 200] (by have hconst : ∀ x, a.eval (.const x) = x := (fun _ => rfl); simp [h20, hconst]) ?_
          refine (Pq1.out w').mono ?_
          rintro e w8 ⟨rfl, rfl⟩
          exact ⟨_, rfl, hK _ _ (Kept.refl _) rfl⟩
        refine AllSteps.cons (StepE.plain rfl fun a w' K hl hK => ?_) ?_
        · obtain ⟨_, _, _, h21⟩ := hl.dep 5 21 rfl rfl
          replace h21 : a.eval (.tmp 21) = _ := h21
          refine wp_val (.float .f64 (floatOfInt .f64 q1)) ?_ (hK _ _ (Kept.refl _) rfl)
          clear hl hK
          generalize a.eval = ρ at *
          simp [execOp, go_sem, h21]
        refine AllSteps.cons (StepE.move _ rfl rfl fun a w' hl => hl.old 0 rfl) ?_
        refine AllSteps.cons (StepE.move _ rfl rfl fun a w' hl => hl.old 4 rfl) ?_
        refine AllSteps.cons (StepE.plain rfl fun a w' K hl hK => ?_) ?_
        · obtain ⟨_, _, _, h24⟩ := hl.dep 8 24 rfl rfl
          replace h24 : a.eval (.tmp 24) = _ := h24
          have hconst : ∀ x, a.eval (.const x) = x := fun _ => rfl
          refine wp_val (.int .i64 ((i : Int) + 1)) ?_ (hK _ _ (Kept.refl _) rfl)
          clear hl hK
          generalize a.eval = ρ at *
          simp [execOp, go_sem, h24, hconst]
          rw [IntKind.wrap_i64]
          omega
        refine AllSteps.cons (StepE.plain rfl fun a w' K hl hK => ?_) ?_
        · obtain ⟨_, _, _, h23⟩ := hl.dep 7 23 rfl rfl
          replace h23 : a.eval (.tmp 23) = _ := h23
          obtain ⟨_, _, _, h25⟩ := hl.dep 9 25 rfl rfl
          replace h25 : a.eval (.tmp 25) = _ := h25
          refine wp_val (.pointer (some ⟨b0, off + (i + 1), none⟩)) ?_ (hK _ _ (Kept.refl _) rfl)
          clear hl hK
          generalize a.eval = ρ at *
          simp [execOp, go_sem, h23, h25]
          try exact ⟨by omega, by omega⟩
          try omega
        refine AllSteps.cons (StepE.plain rfl fun a w' K hl hK => ?_) ?_
        · obtain ⟨_, _, _, h26⟩ := hl.dep 10 26 rfl rfl
          replace h26 : a.eval (.tmp 26) = _ := h26
          have hcell := (Below.cell hl.kept (p := ⟨b0, off + (i + 1), none⟩) hb0).trans HC2.out
          refine wp_val (.int .i64 z2) ?_ (hK _ _ (Kept.refl _) rfl)
          clear hl hK
          generalize a.eval = ρ at *
          simp [execOp, go_sem, h26, hcell]
        refine AllSteps.cons (StepE.plain rfl fun a w' K hl hK => ?_) ?_
        · obtain ⟨_, _, _, h27⟩ := hl.dep 11 27 rfl rfl
          replace h27 : a.eval (.tmp 27) = _ := h27
          refine wp_call rfl Try.func16 rfl rfl #[.int .i64 z2, .int .i64 20] (by have hconst : ∀ x, a.eval (.const x) = x := (fun _ => rfl); simp [h27, hconst]) ?_
          refine (Pq2.out w').mono ?_
          rintro e w8 ⟨rfl, rfl⟩
          exact ⟨_, rfl, hK _ _ (Kept.refl _) rfl⟩
        refine AllSteps.cons (StepE.plain rfl fun a w' K hl hK => ?_) ?_
        · obtain ⟨_, _, _, h28⟩ := hl.dep 12 28 rfl rfl
          replace h28 : a.eval (.tmp 28) = _ := h28
          have hconst : ∀ x, a.eval (.const x) = x := fun _ => rfl
          refine wp_val (.int .i64 (1 + q2)) ?_ (hK _ _ (Kept.refl _) rfl)
          clear hl hK
          generalize a.eval = ρ at *
          simp [execOp, go_sem, h28, hconst]
          rw [IntKind.wrap_i64]
          omega
        refine AllSteps.cons (StepE.plain rfl fun a w' K hl hK => ?_) ?_
        · obtain ⟨_, _, _, h29⟩ := hl.dep 13 29 rfl rfl
          replace h29 : a.eval (.tmp 29) = _ := h29
          refine wp_val (.float .f64 (floatOfInt .f64 (1 + q2))) ?_ (hK _ _ (Kept.refl _) rfl)
          clear hl hK
          generalize a.eval = ρ at *
          simp [execOp, go_sem, h29]
        refine AllSteps.cons (StepE.plain rfl fun a w' K hl hK => ?_) ?_
        · obtain ⟨_, _, _, h22⟩ := hl.dep 6 22 rfl rfl
          replace h22 : a.eval (.tmp 22) = _ := h22
          obtain ⟨_, _, _, h30⟩ := hl.dep 14 30 rfl rfl
          replace h30 : a.eval (.tmp 30) = _ := h30
          refine wp_val (.complex .f64 (floatOfInt .f64 q1) (floatOfInt .f64 (1 + q2))) ?_ (hK _ _ (Kept.refl _) rfl)
          clear hl hK
          generalize a.eval = ρ at *
          simp [go_sem, h22, h30]
        refine AllSteps.cons (StepE.plain rfl fun a w' K hl hK => ?_) ?_
        · obtain ⟨_, _, _, h31⟩ := hl.dep 15 31 rfl rfl
          replace h31 : a.eval (.tmp 31) = _ := h31
          exact wp_build_one rfl h31 (hK _ _ (Kept.alloc _ _) ⟨w'.heap.size, rfl, Nat.le_trans HB0.out hl.kept.size, by simp, cell_one _ _ _⟩)
        refine AllSteps.cons (StepE.raw rfl fun a w' K hl hK => ?_) ?_
        · obtain ⟨_, _, _, h16⟩ := hl.dep 0 16 rfl rfl
          replace h16 : a.eval (.tmp 16) = _ := h16
          obtain ⟨_, w1, hk1, g, h32, hg1, hg2, hg3⟩ := hl.dep 16 32 rfl rfl
          refine wp_append_one rfl B0 (Nat.le_trans HB0.out hl.kept.size) h16 h32 (hl.still (.inl rfl)) ((Below.cell hk1 (p := ⟨g, 0, none⟩) hg2).trans hg3) hm41 x HX.out (fun u wz hbo hb2 hne => hK u wz hb2 (fun d u' hd hlv hlt hsn => ?_) (.inl rfl) hbo)
          obtain ⟨w8, hk8, h8⟩ := hsn
          refine ⟨wz, Kept.refl _, ?_⟩
          by_cases h15 : d = 32
          · subst h15; exact absurd hlv (by decide +kernel)
          by_cases h16 : d = 33
          · subst h16; exact absurd rfl hd
          by_cases h3 : d = 3
          · subst h3; exact absurd hlt (by decide +kernel)
          clear hl hK hlv hlt hd
          dsimp only at h8 ⊢
          split at h8 <;> first | exact h8 | exact absurd rfl h15 | exact absurd rfl h16 | exact absurd rfl h3 | (split <;> first | trivial | (exfalso; simp_all))
        refine AllSteps.cons (StepE.assign _ rfl rfl fun a w' hl => let ⟨_, _, hk, h⟩ := hl.dep 17 33 rfl rfl; OneC.kept h hk) ?_
        exact AllSteps.nil
      · intro f w9 hk9 hf
        obtain ⟨w10, hk10, A5, c5, h3, ho3⟩ := hf 3 rfl rfl
        rw [h3] at ho3
        have HO9 := Lib.hid (own_keepC ho3 fun g hg => hk10.block g (own_lt ho3 g hg).2)
        simp only [fill, dsts, List.filterMap_cons, List.filterMap_nil, List.foldl_cons, List.foldl_nil, Act.put, h3, List.setIfInBounds_toArray, List.set_cons_succ, List.set_cons_zero]
        clear hf ho3 h3
        have HB9 := Lib.hid (HB.out.trans (by rw [← HBE.out]; exact hk9))
        clear hk9
        go_wp2_with fail
        go_roundw
        case rel => exact ⟨m.length + 1, i + 2, by omega, by omega, by omega, by go_num, by
          rw [List.range_succ, List.map_append, ← HM.out, List.map_singleton, ← HXE.out, ← HBE.out]
          exact HO9.out, HB9.out⟩
        case measure => simp [intOf]; omega
    · obtain rfl : k = n := by omega
      have HV : Hid (m = listM l) := by
        show _ = _
        rw [HM.out, HN.out]
        rfl
      have HSM := Lib.hid hsm
      have HO := Lib.hid hown
      clear hsm hown hm
      rcases hn3 with h3 | h3
      · have h3I : (l.length : Int) ≤ (i : Int) + 1 := by omega
        go_wp2_with fail
        go_ret
        subst hml
        rw [← HV.out]
        exact ⟨Am, cm, rfl, Sl.own HO.out, hmc, hcm, HB.out, .inr HO.out⟩
      · have h3I : (40 : Int) ≤ (i : Int) := by omega
        by_cases h4 : i + 1 < l.length
        · have h4I : (i : Int) + 1 < (l.length : Int) := by omega
          go_wp2_with fail
          go_ret
          subst hml
          rw [← HV.out]
          exact ⟨Am, cm, rfl, Sl.own HO.out, hmc, hcm, HB.out, .inr HO.out⟩
        · have h4I : (l.length : Int) ≤ (i : Int) + 1 := by omega
          go_wp2_with fail
          go_ret
          subst hml
          rw [← HV.out]
          exact ⟨Am, cm, rfl, Sl.own HO.out, hmc, hcm, HB.out, .inr HO.out⟩
end Go.Proofs.Ythdbllcpfajjmaa.Sp
