/-
  dir: where a name stands: sort.Search with place's closure; place.
-/
import Derived.Test.YtifbbbphoponcaaDir9
namespace Go.Proofs.Ytifbbbphoponcaa.Dr
open Go.RowKit Wd Wi
set_option linter.unusedVariables false

section
variable {P : Program} {Q : Exit → Act → World → Prop} {o : Oper}
theorem wp_geq_str {a : Act} {w : World} {K : Act → World → Prop} {t t' : TypeId} {x y : Operand} (ho : o.op = .binOp .geq t x y t') {p q : ByteArray} (hx : a.eval x = .string p) (hy : a.eval y = .string q)
    (b : Bool) (hb : (!lt p q) = b) (h : K (a.put o.dst (.bool b)) w) : Oper.wp P o a w K Q := by
  subst hb
  refine wp_val _ ?_ h
  have hg : (eqGuard .geq t x y (.string p) (.string q)).run P w = .ok () w := rfl
  unfold execOp
  simp [ho, hx, hy, hg, binOp_string_geq, lt]
end
theorem closure_any (pl ps b off n c i : Nat) (xs s : ByteArray) (C : Bool) (w : World) (hl : w.cell? ⟨pl, 0, none⟩ = some (.slice (some ⟨b, off, none⟩) n c)) (hs : w.cell? ⟨ps, 0, none⟩ = some (.string s))
    (hx : w.cell? ⟨b, off + i * 2, none⟩ = some (.string xs)) (hi : i < n) (hn : n ≤ 1000) (hC : (!lt xs s) = C) :
    Calls Try.prog 43 #[.int .i64 (i : Int), .pointer (some ⟨pl, 0, none⟩), .pointer (some ⟨ps, 0, none⟩)] w fun e w' => e = .returned (.bool C) ∧ Below w.heap.size w w' := by
  have hpl := World.block_lt_of_cell? _ _ hl
  have hps := World.block_lt_of_cell? _ _ hs
  have hb := World.block_lt_of_cell? _ _ hx
  have hiI : (i : Int) < (n : Int) := by omega
  have hi0 : (0 : Int) ≤ (i : Int) := by omega
  have HL := Lib.hid hl
  have HSC := Lib.hid hs
  have HX := Lib.hid hx
  have HC := Lib.hid hC
  clear hl hs hx hC
  go_enter Try.func43, Try.ntmps43
  go_wp2_with fail
  refine wp_region_rely (by kernel_rfl) (fun d u w' => match d with
    | 4 => u = (.bool C : Value)
    | 5 => u = (.slice (some ⟨b, off, none⟩) n c : Value)
    | 6 => u = (.int .i64 (i : Int) : Value)
    | 7 => u = (.pointer (some ⟨b, off + i * 2, none⟩) : Value)
    | 8 => u = (.pointer (some ⟨b, off + i * 2, none⟩) : Value)
    | 9 => u = (.string xs : Value)
    | 10 => u = (.string s : Value)
    | 11 => u = (.bool C : Value)
    | _ => True) 12 rfl (by decide +kernel) [4] ?_ ?_
  · refine AllSteps.cons (Step.plain rfl fun a w' K hl hK => ?_) ?_
    · have h1 : a.eval (.tmp 1) = (.pointer (some ⟨pl, 0, none⟩) : Value) := hl.old 1 rfl
      have hcell := (Below.cell hl.kept (p := ⟨pl, 0, none⟩) hpl).trans HL.out
      refine wp_val (.slice (some ⟨b, off, none⟩) n c) ?_ (hK _ _ (Kept.refl _) rfl)
      clear hl hK
      generalize a.eval = ρ at *
      simp [execOp, go_sem, h1, hcell]
    refine AllSteps.cons (Step.move _ rfl rfl fun a w' hl => hl.old 0 rfl) ?_
    refine AllSteps.cons (Step.plain rfl fun a w' K hl hK => ?_) ?_
    · obtain ⟨_, _, _, h5⟩ := hl.dep 0 5 rfl rfl
      replace h5 : a.eval (.tmp 5) = _ := h5
      obtain ⟨_, _, _, h6⟩ := hl.dep 1 6 rfl rfl
      replace h6 : a.eval (.tmp 6) = _ := h6
      refine wp_val (.pointer (some ⟨b, off + i * 2, none⟩)) ?_ (hK _ _ (Kept.refl _) rfl)
      clear hl hK
      generalize a.eval = ρ at *
      simp [execOp, go_sem, h5, h6]
      try (intro h; omega)
    refine AllSteps.cons (Step.plain rfl fun a w' K hl hK => ?_) ?_
    · obtain ⟨_, _, _, h7⟩ := hl.dep 2 7 rfl rfl
      replace h7 : a.eval (.tmp 7) = _ := h7
      refine wp_val (.pointer (some ⟨b, off + i * 2, none⟩)) ?_ (hK _ _ (Kept.refl _) rfl)
      clear hl hK
      generalize a.eval = ρ at *
      simp [execOp, go_sem, h7]
      try (intro h; omega)
    refine AllSteps.cons (Step.plain rfl fun a w' K hl hK => ?_) ?_
    · obtain ⟨_, _, _, h8⟩ := hl.dep 3 8 rfl rfl
      replace h8 : a.eval (.tmp 8) = _ := h8
      have hcell := (Below.cell hl.kept (p := ⟨b, off + i * 2, none⟩) hb).trans HX.out
      refine wp_val (.string xs) ?_ (hK _ _ (Kept.refl _) rfl)
      clear hl hK
      generalize a.eval = ρ at *
      simp [execOp, go_sem, h8, hcell]
    refine AllSteps.cons (Step.plain rfl fun a w' K hl hK => ?_) ?_
    · have h2 : a.eval (.tmp 2) = (.pointer (some ⟨ps, 0, none⟩) : Value) := hl.old 2 rfl
      have hcell := (Below.cell hl.kept (p := ⟨ps, 0, none⟩) hps).trans HSC.out
      refine wp_val (.string s) ?_ (hK _ _ (Kept.refl _) rfl)
      clear hl hK
      generalize a.eval = ρ at *
      simp [execOp, go_sem, h2, hcell]
    refine AllSteps.cons (Step.plain rfl fun a w' K hl hK => ?_) ?_
    · obtain ⟨_, _, _, h9⟩ := hl.dep 4 9 rfl rfl
      replace h9 : a.eval (.tmp 9) = _ := h9
      obtain ⟨_, _, _, h10⟩ := hl.dep 5 10 rfl rfl
      replace h10 : a.eval (.tmp 10) = _ := h10
      exact wp_geq_str rfl h9 h10 _ HC.out (hK _ _ (Kept.refl _) rfl)
    refine AllSteps.cons (Step.assign _ rfl rfl fun a w' hl => let ⟨_, _, _, h⟩ := hl.dep 6 11 rfl rfl; h) ?_
    exact AllSteps.nil
  · intro f w9 hk9 hf
    obtain ⟨_, _, hres⟩ := hf 4 rfl rfl
    replace hres : f 4 = .bool C := hres
    simp only [Exit.then, fill, dsts, List.filterMap_cons, List.filterMap_nil, List.foldl_cons, List.foldl_nil, Act.put, hres, List.setIfInBounds_toArray, List.set_cons_succ, List.set_cons_zero]
    clear hf
    go_wp2_with fail
    go_ret
    exact ⟨rfl, hk9⟩
set_option maxHeartbeats 1600000 in
theorem search_any (n K : Nat) (hK : K ≤ n) (hn : n ≤ 1000) (cb : Array Value) (w : World)
    (HC : ∀ (i : Nat) (w' : World), i < n → Below w.heap.size w w' → Calls Try.prog 43 (#[.int .i64 (i : Int)] ++ cb) w' fun e w'' => e = .returned (.bool (decide (K ≤ i))) ∧ Below w'.heap.size w' w'') :
    Calls Try.prog 42 #[.int .i64 (n : Int), .func (.func 43) #[] cb] w fun e w' => e = .returned (.int .i64 (K : Int)) ∧ Below w.heap.size w w' := by
  have HCC := Lib.hid HC
  clear HC
  go_enter Try.func42, Try.ntmps42
  go_wp2_with fail
  go_loopw [5, 6] (fun a b wr => ∃ lo hi : Nat, a = .int .i64 (lo : Int) ∧ b = .int .i64 (hi : Int) ∧ lo ≤ K ∧ K ≤ hi ∧ hi ≤ n ∧ Below w.heap.size w wr) (fun a b _ => (intOf b).toNat - (intOf a).toNat)
  case atStart => exact ⟨0, n, rfl, rfl, by omega, hK, Nat.le_refl _, Below.refl _ _⟩
  case round =>
    obtain ⟨lo, hi, rfl, rfl, h1, h2, h3, hbel⟩ := hrel
    have HB := Lib.hid hbel
    clear hbel
    by_cases hlt : lo < hi
    · have hltI : (lo : Int) < (hi : Int) := by omega
      obtain ⟨h, hh⟩ : ∃ h, h = (lo + hi) / 2 := ⟨_, rfl⟩
      have hhI : ((lo : Int) + (hi : Int)) / 2 = (h : Int) := by omega
      have hh1 : lo ≤ h := by omega
      have hh2 : h < hi := by omega
      have HM := Lib.hid (HCC.out h wr (by omega) HB.out)
      clear hh
      by_cases hd : K ≤ h
      · rw [decide_eq_true hd] at HM
        go_wp2_with fail
        refine HM.out.mono ?_
        rintro e w2 ⟨rfl, hb2⟩
        have HB2 := Lib.hid (HB.out.trans (Below.mono hb2 HB.out.size))
        clear hb2
        go_wp2_with fail
        go_roundw
        case rel => exact ⟨lo, h, rfl, rfl, h1, hd, by omega, HB2.out⟩
        case measure => simp [intOf]; omega
      · rw [decide_eq_false hd] at HM
        go_wp2_with fail
        refine HM.out.mono ?_
        rintro e w2 ⟨rfl, hb2⟩
        have HB2 := Lib.hid (HB.out.trans (Below.mono hb2 HB.out.size))
        clear hb2
        go_wp2_with fail
        go_roundw
        case rel => exact ⟨h + 1, hi, by go_num, rfl, by omega, h2, h3, HB2.out⟩
        case measure => simp [intOf]; omega
    · have hge : (hi : Int) ≤ (lo : Int) := by omega
      obtain rfl : lo = K := by omega
      go_wp2_with fail
      go_ret
      exact ⟨rfl, HB.out⟩
set_option maxHeartbeats 1600000 in
theorem place_any (A : Option Addr) (l : List En) (c : Nat) (s : ByteArray) (w : World) (hs : Sl w w.heap.size 2 A l.length (ecs l)) (hsrt : Srt l) (hk : l.length ≤ 1000) :
    Calls Try.prog 41 #[.slice A l.length c, .string s] w fun e w' => e = .returned (.tuple #[.int .i64 (pos l s : Int), .bool (has l s)]) ∧ Below w.heap.size w w' := by
  have hpos := pos_spec hsrt s
  have hhas := has_at hsrt s
  have hkl := pos_le l s
  have HS := Lib.hid hs
  obtain ⟨w2, hw2⟩ : ∃ w2, w2 = (w.alloc (.cells #[.slice A l.length c] 22)).alloc (.cells #[.string s] 9) := ⟨_, rfl⟩
  have hsz1 : (w.alloc (.cells #[.slice A l.length c] 22)).heap.size = w.heap.size + 1 := by simp
  have hb2 : Below w.heap.size w w2 := by
    rw [hw2]
    exact ((Below.refl w.heap.size w).alloc (Nat.le_refl _) _).alloc (by simp) _
  have hcl : w2.cell? ⟨w.heap.size, 0, none⟩ = some (.slice A l.length c) := by
    rw [hw2, World.cell?_alloc_lt _ _ _ (by simp), cell_of_row _ _ _ _ _ (0, 0) (heap_alloc_new w _)]
    rfl
  have hcs : w2.cell? ⟨w.heap.size + 1, 0, none⟩ = some (.string s) := by
    rw [hw2, ← hsz1, cell_of_row _ _ _ _ _ (0, 0) (heap_alloc_new _ _)]
    rfl
  have hpl := World.block_lt_of_cell? _ _ hcl
  have hps := World.block_lt_of_cell? _ _ hcs
  simp only at hpl hps
  have HCL := Lib.hid hcl
  have HCS := Lib.hid hcs
  have HB2 := Lib.hid hb2
  have HSE : Hid (Calls Try.prog 42 #[.int .i64 (l.length : Int), .func (.func 43) #[] #[.pointer (some ⟨w.heap.size, 0, none⟩), .pointer (some ⟨w.heap.size + 1, 0, none⟩)]] w2 fun e w' => e = .returned (.int .i64 (pos l s : Int)) ∧ Below w2.heap.size w2 w') := by
    refine Lib.hid (search_any l.length (pos l s) hkl hk _ w2 fun i w' hi hb => ?_)
    obtain ⟨x, hx⟩ : ∃ x, l[i]? = some x := ⟨_, List.getElem?_eq_getElem hi⟩
    obtain ⟨b, off, rfl, hb0, _⟩ := HS.out.at (by omega) (by decide)
    have hr := range_keep (ent_range HS.out hx).1 ((HB2.out.trans (Below.mono hb HB2.out.size)).block b hb0)
    exact closure_any w.heap.size (w.heap.size + 1) b off l.length c i x.1 s _ w' ((Below.cell hb (p := ⟨w.heap.size, 0, none⟩) hpl).trans HCL.out) ((Below.cell hb (p := ⟨w.heap.size + 1, 0, none⟩) hps).trans HCS.out) (range_name hr) hi hk (by
      rw [hpos i x hx, Bool.eq_iff_iff]
      simp)
  obtain ⟨k, hke⟩ : ∃ k, k = pos l s := ⟨_, rfl⟩
  rw [← hke] at HSE hkl hhas
  have HK := Lib.hid hke
  rw [← hke]
  clear hpos hcl hcs hs hb2 hke hsz1
  go_enter Try.func41, Try.ntmps41
  go_wp2_with fail
  rw [← hw2]
  refine HSE.out.mono ?_
  rintro e w3 ⟨rfl, hb3⟩
  have HB3 := Lib.hid (HB2.out.trans (Below.mono hb3 HB2.out.size))
  have HL := Lib.hid ((Below.cell hb3 (p := ⟨w.heap.size, 0, none⟩) hpl).trans HCL.out)
  have HSC := Lib.hid ((Below.cell hb3 (p := ⟨w.heap.size + 1, 0, none⟩) hps).trans HCS.out)
  replace hpl := Nat.lt_of_lt_of_le hpl hb3.size
  replace hps := Nat.lt_of_lt_of_le hps hb3.size
  obtain ⟨pl, hple⟩ : ∃ pl, pl = w.heap.size := ⟨_, rfl⟩
  obtain ⟨ps, hpse⟩ : ∃ ps, ps = w.heap.size + 1 := ⟨_, rfl⟩
  obtain ⟨n, hn⟩ : ∃ n, n = l.length := ⟨_, rfl⟩
  rw [← hple] at hpl HL
  rw [← hpse] at hps HSC
  rw [← hn] at hkl hk HL
  clear hb3 hw2 HSE HCL HCS
  by_cases hlt : k < l.length
  · obtain ⟨x, hx⟩ : ∃ x, l[k]? = some x := ⟨_, List.getElem?_eq_getElem hlt⟩
    have hltI : (k : Int) < (n : Int) := by omega
    have hk0 : (0 : Int) ≤ (k : Int) := by omega
    have hA : ∃ b off, A = some ⟨b, off, none⟩ ∧ b < w.heap.size := by
      obtain ⟨b, off, e, hb, _⟩ := HS.out.at (by omega) (by decide)
      exact ⟨b, off, e, hb⟩
    obtain ⟨b, off, rfl, hb0⟩ := hA
    have HX := Lib.hid (range_name (range_keep (ent_range HS.out hx).1 (HB3.out.block b hb0)))
    have hbb : b < w3.heap.size := Nat.lt_of_lt_of_le hb0 HB3.out.size
    rw [hx] at hhas
    simp only at hhas
    obtain ⟨xs, xi⟩ := x
    simp only at hhas HX
    cases he : eqS xs s
    · have HEQ : Hid ((xs.toList == s.toList) = false) := Lib.hid he
      rw [he] at hhas
      have HH := Lib.hid hhas
      clear he hhas hx
      rw [← hpse, ← hple, ← hn]
      clear hple hpse hn hlt
      go_wp2_with fail
      refine wp_region_rely (by kernel_rfl) (fun d u w' => match d with
        | 4 => u = (.int .i64 (k : Int) : Value)
        | 5 => u = (.bool false : Value)
        | 11 => u = (.int .i64 (k : Int) : Value)
        | 12 => u = (.int .i64 (k : Int) : Value)
        | 13 => u = (.slice (some ⟨b, off, none⟩) n c : Value)
        | 14 => u = (.int .i64 (n : Int) : Value)
        | 15 => u = (.bool true : Value)
        | 16 => u = (.bool true : Value)
        | 17 => u = (.slice (some ⟨b, off, none⟩) n c : Value)
        | 18 => u = (.int .i64 (k : Int) : Value)
        | 19 => u = (.pointer (some ⟨b, off + k * 2, none⟩) : Value)
        | 20 => u = (.pointer (some ⟨b, off + k * 2, none⟩) : Value)
        | 21 => u = (.string xs : Value)
        | 22 => u = (.string s : Value)
        | 23 => u = (.bool false : Value)
        | 24 => u = (.bool false : Value)
        | _ => True) 25 rfl (by decide +kernel) [4, 5] ?_ ?_
      · refine AllSteps.cons (Step.move _ rfl rfl fun a w' hl => hl.old 6 rfl) ?_
        refine AllSteps.cons (Step.move _ rfl rfl fun a w' hl => hl.old 6 rfl) ?_
        refine AllSteps.cons (Step.plain rfl fun a w' K hl hK => ?_) ?_
        · have h2 : a.eval (.tmp 2) = (.pointer (some ⟨pl, 0, none⟩) : Value) := hl.old 2 rfl
          have hcell := (Below.cell hl.kept (p := ⟨pl, 0, none⟩) hpl).trans HL.out
          refine wp_val (.slice (some ⟨b, off, none⟩) n c) ?_ (hK _ _ (Kept.refl _) rfl)
          clear hl hK
          generalize a.eval = ρ at *
          simp [execOp, go_sem, h2, hcell]
        refine AllSteps.cons (Step.plain rfl fun a w' K hl hK => ?_) ?_
        · obtain ⟨_, _, _, h13⟩ := hl.dep 2 13 rfl rfl
          replace h13 : a.eval (.tmp 13) = _ := h13
          refine wp_val (.int .i64 (n : Int)) ?_ (hK _ _ (Kept.refl _) rfl)
          clear hl hK
          generalize a.eval = ρ at *
          simp [go_sem, h13]
        refine AllSteps.cons (Step.plain rfl fun a w' K hl hK => ?_) ?_
        · obtain ⟨_, _, _, h12⟩ := hl.dep 1 12 rfl rfl
          replace h12 : a.eval (.tmp 12) = _ := h12
          obtain ⟨_, _, _, h14⟩ := hl.dep 3 14 rfl rfl
          replace h14 : a.eval (.tmp 14) = _ := h14
          refine wp_val (.bool true) ?_ (hK _ _ (Kept.refl _) rfl)
          clear hl hK
          generalize a.eval = ρ at *
          simp [execOp, go_sem, h12, h14]
          try omega
        refine AllSteps.cons (Step.move _ rfl rfl fun a w' hl => let ⟨_, _, _, h⟩ := hl.dep 4 15 rfl rfl; h) ?_
        refine AllSteps.cons (Step.yes 5 true 16 rfl rfl rfl (fun _ _ h => h) fun a w' K hl hK => ?_) ?_
        · have h2 : a.eval (.tmp 2) = (.pointer (some ⟨pl, 0, none⟩) : Value) := hl.old 2 rfl
          have hcell := (Below.cell hl.kept (p := ⟨pl, 0, none⟩) hpl).trans HL.out
          refine wp_val (.slice (some ⟨b, off, none⟩) n c) ?_ (hK _ _ (Kept.refl _) rfl)
          clear hl hK
          generalize a.eval = ρ at *
          simp [execOp, go_sem, h2, hcell]
        refine AllSteps.cons (Step.yes 5 true 16 rfl rfl rfl (fun _ _ h => h) fun a w' K hl hK => ?_) ?_
        · have h6 : a.eval (.tmp 6) = (.int .i64 (k : Int) : Value) := hl.old 6 rfl
          exact wp_val (a.eval (.tmp 6)) rfl (hK _ _ (Kept.refl _) h6)
        refine AllSteps.cons (Step.yes 5 true 16 rfl rfl rfl (fun _ _ h => h) fun a w' K hl hK => ?_) ?_
        · obtain ⟨_, _, _, h17⟩ := hl.dep 6 17 rfl rfl
          replace h17 : a.eval (.tmp 17) = _ := h17
          obtain ⟨_, _, _, h18⟩ := hl.dep 7 18 rfl rfl
          replace h18 : a.eval (.tmp 18) = _ := h18
          refine wp_val (.pointer (some ⟨b, off + k * 2, none⟩)) ?_ (hK _ _ (Kept.refl _) rfl)
          clear hl hK
          generalize a.eval = ρ at *
          simp [execOp, go_sem, h17, h18]
          try (intro h; omega)
        refine AllSteps.cons (Step.yes 5 true 16 rfl rfl rfl (fun _ _ h => h) fun a w' K hl hK => ?_) ?_
        · obtain ⟨_, _, _, h19⟩ := hl.dep 8 19 rfl rfl
          replace h19 : a.eval (.tmp 19) = _ := h19
          refine wp_val (.pointer (some ⟨b, off + k * 2, none⟩)) ?_ (hK _ _ (Kept.refl _) rfl)
          clear hl hK
          generalize a.eval = ρ at *
          simp [execOp, go_sem, h19]
          try (intro h; omega)
        refine AllSteps.cons (Step.yes 5 true 16 rfl rfl rfl (fun _ _ h => h) fun a w' K hl hK => ?_) ?_
        · obtain ⟨_, _, _, h20⟩ := hl.dep 9 20 rfl rfl
          replace h20 : a.eval (.tmp 20) = _ := h20
          have hcell := (Below.cell hl.kept (p := ⟨b, off + k * 2, none⟩) hbb).trans HX.out
          refine wp_val (.string xs) ?_ (hK _ _ (Kept.refl _) rfl)
          clear hl hK
          generalize a.eval = ρ at *
          simp [execOp, go_sem, h20, hcell]
        refine AllSteps.cons (Step.yes 5 true 16 rfl rfl rfl (fun _ _ h => h) fun a w' K hl hK => ?_) ?_
        · have h3 : a.eval (.tmp 3) = (.pointer (some ⟨ps, 0, none⟩) : Value) := hl.old 3 rfl
          have hcell := (Below.cell hl.kept (p := ⟨ps, 0, none⟩) hps).trans HSC.out
          refine wp_val (.string s) ?_ (hK _ _ (Kept.refl _) rfl)
          clear hl hK
          generalize a.eval = ρ at *
          simp [execOp, go_sem, h3, hcell]
        refine AllSteps.cons (Step.yes 5 true 16 rfl rfl rfl (fun _ _ h => h) fun a w' K hl hK => ?_) ?_
        · obtain ⟨_, _, _, h21⟩ := hl.dep 10 21 rfl rfl
          replace h21 : a.eval (.tmp 21) = _ := h21
          obtain ⟨_, _, _, h22⟩ := hl.dep 11 22 rfl rfl
          replace h22 : a.eval (.tmp 22) = _ := h22
          exact wp_eql_str rfl h21 h22 _ HEQ.out (hK _ _ (Kept.refl _) rfl)
        refine AllSteps.cons (Step.plain rfl fun a w' K hl hK => ?_) ?_
        · obtain ⟨_, _, _, h16⟩ := hl.dep 5 16 rfl rfl
          replace h16 : a.eval (.tmp 16) = _ := h16
          obtain ⟨_, _, _, h23⟩ := hl.dep 12 23 rfl rfl
          replace h23 : a.eval (.tmp 23) = _ := h23
          exact wp_pick rfl true h16 (hK _ _ (Kept.refl _) h23)
        refine AllSteps.cons (Step.assign _ rfl rfl fun a w' hl => let ⟨_, _, _, h⟩ := hl.dep 0 11 rfl rfl; h) ?_
        refine AllSteps.cons (Step.assign _ rfl rfl fun a w' hl => let ⟨_, _, _, h⟩ := hl.dep 13 24 rfl rfl; h) ?_
        exact AllSteps.nil
      · intro f w9 hk9 hf
        obtain ⟨_, _, hr4⟩ := hf 4 rfl rfl
        obtain ⟨_, _, hr5⟩ := hf 5 rfl rfl
        replace hr4 : f 4 = .int .i64 (k : Int) := hr4
        replace hr5 : f 5 = .bool false := hr5
        simp only [Exit.then, fill, dsts, List.filterMap_cons, List.filterMap_nil, List.foldl_cons, List.foldl_nil, Act.put, hr4, hr5, List.setIfInBounds_toArray, List.set_cons_succ, List.set_cons_zero]
        clear hf
        have HB9 := Lib.hid (HB3.out.trans (Below.mono hk9 HB3.out.size))
        clear hk9
        go_wp2_with fail
        go_ret2
        exact ⟨by rw [HH.out]; rfl, HB9.out⟩
    · have HEQ : Hid ((xs.toList == s.toList) = true) := Lib.hid he
      rw [he] at hhas
      have HH := Lib.hid hhas
      clear he hhas hx
      rw [← hpse, ← hple, ← hn]
      clear hple hpse hn hlt
      go_wp2_with fail
      refine wp_region_rely (by kernel_rfl) (fun d u w' => match d with
        | 4 => u = (.int .i64 (k : Int) : Value)
        | 5 => u = (.bool true : Value)
        | 11 => u = (.int .i64 (k : Int) : Value)
        | 12 => u = (.int .i64 (k : Int) : Value)
        | 13 => u = (.slice (some ⟨b, off, none⟩) n c : Value)
        | 14 => u = (.int .i64 (n : Int) : Value)
        | 15 => u = (.bool true : Value)
        | 16 => u = (.bool true : Value)
        | 17 => u = (.slice (some ⟨b, off, none⟩) n c : Value)
        | 18 => u = (.int .i64 (k : Int) : Value)
        | 19 => u = (.pointer (some ⟨b, off + k * 2, none⟩) : Value)
        | 20 => u = (.pointer (some ⟨b, off + k * 2, none⟩) : Value)
        | 21 => u = (.string xs : Value)
        | 22 => u = (.string s : Value)
        | 23 => u = (.bool true : Value)
        | 24 => u = (.bool true : Value)
        | _ => True) 25 rfl (by decide +kernel) [4, 5] ?_ ?_
      · refine AllSteps.cons (Step.move _ rfl rfl fun a w' hl => hl.old 6 rfl) ?_
        refine AllSteps.cons (Step.move _ rfl rfl fun a w' hl => hl.old 6 rfl) ?_
        refine AllSteps.cons (Step.plain rfl fun a w' K hl hK => ?_) ?_
        · have h2 : a.eval (.tmp 2) = (.pointer (some ⟨pl, 0, none⟩) : Value) := hl.old 2 rfl
          have hcell := (Below.cell hl.kept (p := ⟨pl, 0, none⟩) hpl).trans HL.out
          refine wp_val (.slice (some ⟨b, off, none⟩) n c) ?_ (hK _ _ (Kept.refl _) rfl)
          clear hl hK
          generalize a.eval = ρ at *
          simp [execOp, go_sem, h2, hcell]
        refine AllSteps.cons (Step.plain rfl fun a w' K hl hK => ?_) ?_
        · obtain ⟨_, _, _, h13⟩ := hl.dep 2 13 rfl rfl
          replace h13 : a.eval (.tmp 13) = _ := h13
          refine wp_val (.int .i64 (n : Int)) ?_ (hK _ _ (Kept.refl _) rfl)
          clear hl hK
          generalize a.eval = ρ at *
          simp [go_sem, h13]
        refine AllSteps.cons (Step.plain rfl fun a w' K hl hK => ?_) ?_
        · obtain ⟨_, _, _, h12⟩ := hl.dep 1 12 rfl rfl
          replace h12 : a.eval (.tmp 12) = _ := h12
          obtain ⟨_, _, _, h14⟩ := hl.dep 3 14 rfl rfl
          replace h14 : a.eval (.tmp 14) = _ := h14
          refine wp_val (.bool true) ?_ (hK _ _ (Kept.refl _) rfl)
          clear hl hK
          generalize a.eval = ρ at *
          simp [execOp, go_sem, h12, h14]
          try omega
        refine AllSteps.cons (Step.move _ rfl rfl fun a w' hl => let ⟨_, _, _, h⟩ := hl.dep 4 15 rfl rfl; h) ?_
        refine AllSteps.cons (Step.yes 5 true 16 rfl rfl rfl (fun _ _ h => h) fun a w' K hl hK => ?_) ?_
        · have h2 : a.eval (.tmp 2) = (.pointer (some ⟨pl, 0, none⟩) : Value) := hl.old 2 rfl
          have hcell := (Below.cell hl.kept (p := ⟨pl, 0, none⟩) hpl).trans HL.out
          refine wp_val (.slice (some ⟨b, off, none⟩) n c) ?_ (hK _ _ (Kept.refl _) rfl)
          clear hl hK
          generalize a.eval = ρ at *
          simp [execOp, go_sem, h2, hcell]
        refine AllSteps.cons (Step.yes 5 true 16 rfl rfl rfl (fun _ _ h => h) fun a w' K hl hK => ?_) ?_
        · have h6 : a.eval (.tmp 6) = (.int .i64 (k : Int) : Value) := hl.old 6 rfl
          exact wp_val (a.eval (.tmp 6)) rfl (hK _ _ (Kept.refl _) h6)
        refine AllSteps.cons (Step.yes 5 true 16 rfl rfl rfl (fun _ _ h => h) fun a w' K hl hK => ?_) ?_
        · obtain ⟨_, _, _, h17⟩ := hl.dep 6 17 rfl rfl
          replace h17 : a.eval (.tmp 17) = _ := h17
          obtain ⟨_, _, _, h18⟩ := hl.dep 7 18 rfl rfl
          replace h18 : a.eval (.tmp 18) = _ := h18
          refine wp_val (.pointer (some ⟨b, off + k * 2, none⟩)) ?_ (hK _ _ (Kept.refl _) rfl)
          clear hl hK
          generalize a.eval = ρ at *
          simp [execOp, go_sem, h17, h18]
          try (intro h; omega)
        refine AllSteps.cons (Step.yes 5 true 16 rfl rfl rfl (fun _ _ h => h) fun a w' K hl hK => ?_) ?_
        · obtain ⟨_, _, _, h19⟩ := hl.dep 8 19 rfl rfl
          replace h19 : a.eval (.tmp 19) = _ := h19
          refine wp_val (.pointer (some ⟨b, off + k * 2, none⟩)) ?_ (hK _ _ (Kept.refl _) rfl)
          clear hl hK
          generalize a.eval = ρ at *
          simp [execOp, go_sem, h19]
          try (intro h; omega)
        refine AllSteps.cons (Step.yes 5 true 16 rfl rfl rfl (fun _ _ h => h) fun a w' K hl hK => ?_) ?_
        · obtain ⟨_, _, _, h20⟩ := hl.dep 9 20 rfl rfl
          replace h20 : a.eval (.tmp 20) = _ := h20
          have hcell := (Below.cell hl.kept (p := ⟨b, off + k * 2, none⟩) hbb).trans HX.out
          refine wp_val (.string xs) ?_ (hK _ _ (Kept.refl _) rfl)
          clear hl hK
          generalize a.eval = ρ at *
          simp [execOp, go_sem, h20, hcell]
        refine AllSteps.cons (Step.yes 5 true 16 rfl rfl rfl (fun _ _ h => h) fun a w' K hl hK => ?_) ?_
        · have h3 : a.eval (.tmp 3) = (.pointer (some ⟨ps, 0, none⟩) : Value) := hl.old 3 rfl
          have hcell := (Below.cell hl.kept (p := ⟨ps, 0, none⟩) hps).trans HSC.out
          refine wp_val (.string s) ?_ (hK _ _ (Kept.refl _) rfl)
          clear hl hK
          generalize a.eval = ρ at *
          simp [execOp, go_sem, h3, hcell]
        refine AllSteps.cons (Step.yes 5 true 16 rfl rfl rfl (fun _ _ h => h) fun a w' K hl hK => ?_) ?_
        · obtain ⟨_, _, _, h21⟩ := hl.dep 10 21 rfl rfl
          replace h21 : a.eval (.tmp 21) = _ := h21
          obtain ⟨_, _, _, h22⟩ := hl.dep 11 22 rfl rfl
          replace h22 : a.eval (.tmp 22) = _ := h22
          exact wp_eql_str rfl h21 h22 _ HEQ.out (hK _ _ (Kept.refl _) rfl)
        refine AllSteps.cons (Step.plain rfl fun a w' K hl hK => ?_) ?_
        · obtain ⟨_, _, _, h16⟩ := hl.dep 5 16 rfl rfl
          replace h16 : a.eval (.tmp 16) = _ := h16
          obtain ⟨_, _, _, h23⟩ := hl.dep 12 23 rfl rfl
          replace h23 : a.eval (.tmp 23) = _ := h23
          exact wp_pick rfl true h16 (hK _ _ (Kept.refl _) h23)
        refine AllSteps.cons (Step.assign _ rfl rfl fun a w' hl => let ⟨_, _, _, h⟩ := hl.dep 0 11 rfl rfl; h) ?_
        refine AllSteps.cons (Step.assign _ rfl rfl fun a w' hl => let ⟨_, _, _, h⟩ := hl.dep 13 24 rfl rfl; h) ?_
        exact AllSteps.nil
      · intro f w9 hk9 hf
        obtain ⟨_, _, hr4⟩ := hf 4 rfl rfl
        obtain ⟨_, _, hr5⟩ := hf 5 rfl rfl
        replace hr4 : f 4 = .int .i64 (k : Int) := hr4
        replace hr5 : f 5 = .bool true := hr5
        simp only [Exit.then, fill, dsts, List.filterMap_cons, List.filterMap_nil, List.foldl_cons, List.foldl_nil, Act.put, hr4, hr5, List.setIfInBounds_toArray, List.set_cons_succ, List.set_cons_zero]
        clear hf
        have HB9 := Lib.hid (HB3.out.trans (Below.mono hk9 HB3.out.size))
        clear hk9
        go_wp2_with fail
        go_ret2
        exact ⟨by rw [HH.out]; rfl, HB9.out⟩
  · have hge : (n : Int) ≤ (k : Int) := by omega
    rw [List.getElem?_eq_none (by omega)] at hhas
    have HH := Lib.hid hhas
    clear hhas
    rw [← hpse, ← hple, ← hn]
    clear hple hpse hn hlt
    go_wp2_with fail
    refine wp_region_rely (by kernel_rfl) (fun d u w' => match d with
      | 4 => u = (.int .i64 (k : Int) : Value)
      | 5 => u = (.bool false : Value)
      | 11 => u = (.int .i64 (k : Int) : Value)
      | 12 => u = (.int .i64 (k : Int) : Value)
      | 13 => u = (.slice A n c : Value)
      | 14 => u = (.int .i64 (n : Int) : Value)
      | 15 => u = (.bool false : Value)
      | 16 => u = (.bool false : Value)
      | 17 => u = (Go.undef : Value)
      | 18 => u = (Go.undef : Value)
      | 19 => u = (Go.undef : Value)
      | 20 => u = (Go.undef : Value)
      | 21 => u = (Go.undef : Value)
      | 22 => u = (Go.undef : Value)
      | 23 => u = (Go.undef : Value)
      | 24 => u = (.bool false : Value)
      | _ => True) 25 rfl (by decide +kernel) [4, 5] ?_ ?_
    · refine AllSteps.cons (Step.move _ rfl rfl fun a w' hl => hl.old 6 rfl) ?_
      refine AllSteps.cons (Step.move _ rfl rfl fun a w' hl => hl.old 6 rfl) ?_
      refine AllSteps.cons (Step.plain rfl fun a w' K hl hK => ?_) ?_
      · have h2 : a.eval (.tmp 2) = (.pointer (some ⟨pl, 0, none⟩) : Value) := hl.old 2 rfl
        have hcell := (Below.cell hl.kept (p := ⟨pl, 0, none⟩) hpl).trans HL.out
        refine wp_val (.slice A n c) ?_ (hK _ _ (Kept.refl _) rfl)
        clear hl hK
        generalize a.eval = ρ at *
        simp [execOp, go_sem, h2, hcell]
      refine AllSteps.cons (Step.plain rfl fun a w' K hl hK => ?_) ?_
      · obtain ⟨_, _, _, h13⟩ := hl.dep 2 13 rfl rfl
        replace h13 : a.eval (.tmp 13) = _ := h13
        refine wp_val (.int .i64 (n : Int)) ?_ (hK _ _ (Kept.refl _) rfl)
        clear hl hK
        generalize a.eval = ρ at *
        simp [go_sem, h13]
      refine AllSteps.cons (Step.plain rfl fun a w' K hl hK => ?_) ?_
      · obtain ⟨_, _, _, h12⟩ := hl.dep 1 12 rfl rfl
        replace h12 : a.eval (.tmp 12) = _ := h12
        obtain ⟨_, _, _, h14⟩ := hl.dep 3 14 rfl rfl
        replace h14 : a.eval (.tmp 14) = _ := h14
        refine wp_val (.bool false) ?_ (hK _ _ (Kept.refl _) rfl)
        clear hl hK
        generalize a.eval = ρ at *
        simp [execOp, go_sem, h12, h14]
        try omega
      refine AllSteps.cons (Step.move _ rfl rfl fun a w' hl => let ⟨_, _, _, h⟩ := hl.dep 4 15 rfl rfl; h) ?_
      refine AllSteps.cons (Step.no 5 true 16 rfl rfl rfl (fun u w h => by rw [show u = (.bool false : Value) from h]; intro h'; cases h') (fun _ => rfl)) ?_
      refine AllSteps.cons (Step.no 5 true 16 rfl rfl rfl (fun u w h => by rw [show u = (.bool false : Value) from h]; intro h'; cases h') (fun _ => rfl)) ?_
      refine AllSteps.cons (Step.no 5 true 16 rfl rfl rfl (fun u w h => by rw [show u = (.bool false : Value) from h]; intro h'; cases h') (fun _ => rfl)) ?_
      refine AllSteps.cons (Step.no 5 true 16 rfl rfl rfl (fun u w h => by rw [show u = (.bool false : Value) from h]; intro h'; cases h') (fun _ => rfl)) ?_
      refine AllSteps.cons (Step.no 5 true 16 rfl rfl rfl (fun u w h => by rw [show u = (.bool false : Value) from h]; intro h'; cases h') (fun _ => rfl)) ?_
      refine AllSteps.cons (Step.no 5 true 16 rfl rfl rfl (fun u w h => by rw [show u = (.bool false : Value) from h]; intro h'; cases h') (fun _ => rfl)) ?_
      refine AllSteps.cons (Step.no 5 true 16 rfl rfl rfl (fun u w h => by rw [show u = (.bool false : Value) from h]; intro h'; cases h') (fun _ => rfl)) ?_
      refine AllSteps.cons (Step.plain rfl fun a w' K hl hK => ?_) ?_
      · obtain ⟨_, _, _, h16⟩ := hl.dep 5 16 rfl rfl
        replace h16 : a.eval (.tmp 16) = _ := h16
        obtain ⟨_, _, _, h23⟩ := hl.dep 12 23 rfl rfl
        replace h23 : a.eval (.tmp 23) = _ := h23
        exact wp_pick rfl false h16 (hK _ _ (Kept.refl _) rfl)
      refine AllSteps.cons (Step.assign _ rfl rfl fun a w' hl => let ⟨_, _, _, h⟩ := hl.dep 0 11 rfl rfl; h) ?_
      refine AllSteps.cons (Step.assign _ rfl rfl fun a w' hl => let ⟨_, _, _, h⟩ := hl.dep 13 24 rfl rfl; h) ?_
      exact AllSteps.nil
    · intro f w9 hk9 hf
      obtain ⟨_, _, hr4⟩ := hf 4 rfl rfl
      obtain ⟨_, _, hr5⟩ := hf 5 rfl rfl
      replace hr4 : f 4 = .int .i64 (k : Int) := hr4
      replace hr5 : f 5 = .bool false := hr5
      simp only [Exit.then, fill, dsts, List.filterMap_cons, List.filterMap_nil, List.foldl_cons, List.foldl_nil, Act.put, hr4, hr5, List.setIfInBounds_toArray, List.set_cons_succ, List.set_cons_zero]
      clear hf
      have HB9 := Lib.hid (HB3.out.trans (Below.mono hk9 HB3.out.size))
      clear hk9
      go_wp2_with fail
      go_ret2
      exact ⟨by rw [HH.out]; rfl, HB9.out⟩
end Go.Proofs.Ytifbbbphoponcaa.Dr
