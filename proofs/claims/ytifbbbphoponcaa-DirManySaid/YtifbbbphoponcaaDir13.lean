/-
  dir: the document's Add and Remove.
-/
import Derived.Test.YtifbbbphoponcaaDir12
namespace Go.Proofs.Ytifbbbphoponcaa.Dr
open Go.RowKit Wd Wi We
set_option linter.unusedVariables false
set_option linter.unusedSimpArgs false

section
variable {P : Program} {Q : Exit → Act → World → Prop} {o : Oper}
theorem wp_lss_str {a : Act} {w : World} {K : Act → World → Prop} {t t' : TypeId} {x y : Operand} (ho : o.op = .binOp .lss t x y t') {p q : ByteArray} (hx : a.eval x = .string p) (hy : a.eval y = .string q)
    (b : Bool) (hb : lt p q = b) (h : K (a.put o.dst (.bool b)) w) : Oper.wp P o a w K Q := by
  subst hb
  refine wp_val _ ?_ h
  have hg : (eqGuard .lss t x y (.string p) (.string q)).run P w = .ok () w := rfl
  unfold execOp
  simp [ho, hx, hy, hg, binOp_string_lss, lt]
end
theorem pos_down {l : List En} (hs : Srt l) {s : ByteArray} {k : Nat} {y : En} (hy : l[k]? = some y) (h : lt s y.1 = true) : pos l s ≤ k := by
  have h1 := pos_spec hs s k y hy
  rw [lt_asymm h] at h1
  have := of_decide_eq_false h1.symm
  omega
theorem pos_stop {l : List En} (hs : Srt l) {s : ByteArray} {k : Nat} {y : En} (hy : l[k]? = some y) (hh : has l s = false) (h : lt s y.1 = false) (hp : pos l s ≤ k + 1) : pos l s = k + 1 := by
  have h1 := pos_spec hs s k y hy
  have hne : eqS y.1 s = false := by
    have := List.any_eq_false.1 hh y (List.mem_of_getElem? hy)
    simpa using this
  have h2 : lt y.1 s = true := by
    cases h3 : lt y.1 s with
    | true => rfl
    | false =>
      have := lt_total h3 h
      rw [eqS_iff.2 this] at hne
      cases hne
  rw [h2] at h1
  have := of_decide_eq_true h1.symm
  omega
theorem pos_at {l : List En} (hs : Srt l) {k : Nat} {y : En} (hy : l[k]? = some y) : pos l y.1 = k := by
  have h1 := pos_spec hs y.1 k y hy
  rw [lt_irrefl] at h1
  have h2 := of_decide_eq_false h1.symm
  rcases Nat.eq_zero_or_pos k with h0 | h0
  · omega
  · have hlt := (List.getElem?_eq_some_iff.1 hy).1
    obtain ⟨z, hz⟩ : ∃ z, l[k - 1]? = some z := ⟨_, List.getElem?_eq_getElem (by omega)⟩
    have h3 := pos_spec hs y.1 (k - 1) z hz
    have h4 : lt z.1 y.1 = true := by
      obtain ⟨_, e1⟩ := List.getElem?_eq_some_iff.1 hz
      obtain ⟨_, e2⟩ := List.getElem?_eq_some_iff.1 hy
      rw [← e1, ← e2]
      exact List.pairwise_iff_getElem.1 hs _ _ _ _ (by omega)
    rw [h4] at h3
    have := of_decide_eq_true h3.symm
    omega
theorem has_mem {l : List En} {k : Nat} {y : En} (hy : l[k]? = some y) : has l y.1 = true := List.any_eq_true.2 ⟨y, List.mem_of_getElem? hy, eqS_self _⟩
theorem has_upto {l : List En} {k : Nat} {x : En} (h : l[k]? = some x) (s : ByteArray) : has (l.take (k + 1)) s = (has (l.take k) s || eqS x.1 s) := by
  unfold has
  rw [List.take_add_one, h, List.any_append]
  simp
section
variable {Q : Exit → Act → World → Prop} {a : Act} {w : World} {o : Oper}
theorem wp_append_ents {K : Act → World → Prop} {s y : Operand} (ho : o.op = .call { callee := .builtin .append, args := #[s, y], argTypes := #[22, 22] }) (b : Nat) (hb : b ≤ w.heap.size)
    {v : Value} {n m c2 B : Nat} {L xs : List En} {A2 : Option Addr} (hs : a.eval s = v) (hL : Mine w b 40 2 v n (ecs L)) (hy : a.eval y = .slice A2 m c2) (hsl : Sl w B 2 A2 m (ecs xs)) (hlen : n + m ≤ 1000000)
    (hK : ∀ A' c' w', Mine w' b 40 2 (.slice A' (n + m) c') (n + m) (ecs (L ++ xs)) → w.grownBy w' v.ownBlock → Below b w w' → K (a.put o.dst (.slice A' (n + m) c')) w') : Oper.wp Try.prog o a w K Q := by
  obtain ⟨i0, hi, hz0, hz1, hz2⟩ := info_parts infoEnt
  obtain ⟨v', w', hr, h1, h2, h3, h4, h5⟩ := run_append_mine (P := Try.prog) w b 22 22 o.type 40 i0 (.agg #[.string ByteArray.empty, .int .i64 0]) 2 24 hz1 hz2 rfl (by decide) _ _ _ hL (.slice A2 m c2) m (ecs xs)
    (Gives.slice Try.underlying22 hi hz0 (by rw [hz1]; exact hsl) (ecs_one xs)) (by simp only [maxLen]; omega) (by omega) hb
  obtain ⟨A', c', rfl, _⟩ := h1.form
  rw [← ecs_append] at h1
  unfold Oper.wp execOp
  simp only [ho, resolve, invoke, builtin, Sem.run_bind, Sem.run_pure, Result.andThen_ok, List.map_toArray, List.map_cons, List.map_nil, hs, hy, hr]
  exact hK _ _ w' h1 h2 h3
end
theorem MineE.kept {B0 k : Nat} {xs : List Value} {u : Value} {w w' : World} (h : ∃ A c, u = .slice A k c ∧ Mine w B0 40 2 u k xs) (hk : Kept w w') : ∃ A c, u = .slice A k c ∧ Mine w' B0 40 2 u k xs := by
  obtain ⟨A, c, e, h⟩ := h
  exact ⟨A, c, e, h.on hk⟩
set_option maxRecDepth 100000 in
set_option maxHeartbeats 3200000 in
theorem radd_any (A : Option Addr) (l : List En) (c : Nat) (x : En) (w : World) (hs : Sl w w.heap.size 2 A l.length (ecs l)) (hc : l.length ≤ c) (hsrt : Srt l) (hk : l.length ≤ 1000) (hx : goodE x) :
    Calls Try.prog 26 #[.slice A l.length c, ev x] w (ResA w (addV l x)) := by
  obtain ⟨i0, hi, hz0, hz1, hz2⟩ := info_parts infoEnt
  have FND := Lib.hid (fun w hs => rfind_any (A := A) (l := l) (c := c) (s := x.1) (w := w) hs (by omega))
  have MAY := Lib.hid (fun w => entry_any x hx w)
  have hkl := pos_le l x.1
  have HS := Lib.hid hs
  obtain ⟨p, hp⟩ : ∃ p, p = pos l x.1 := ⟨_, rfl⟩
  have HP := Lib.hid hp
  have HINS : Hid (ins l x = l.take p ++ x :: l.drop p) := Lib.hid (by rw [hp]; rfl)
  rw [← hp] at hkl
  have HW0 := Lib.hid (range_new w x 40)
  have HAV : Hid (addV l x = if !mayB x then ([], 1) else if has l x.1 then ([], 6) else if 64 ≤ l.length then ([], 5) else (ins l x, 0)) := Lib.hid rfl
  obtain ⟨mb, hmb⟩ : ∃ b, b = mayB x := ⟨_, rfl⟩
  obtain ⟨hh, hhh⟩ : ∃ b, b = has l x.1 := ⟨_, rfl⟩
  obtain ⟨V, hV⟩ : ∃ V, V = addV l x := ⟨_, rfl⟩
  obtain ⟨fi, hfi⟩ : ∃ fi, fi = (findV l x.1).1 := ⟨_, rfl⟩
  have hfh := find_has l x.1
  rw [← hmb] at MAY HAV
  rw [hfh, ← hhh, ← hfi] at FND
  rw [← hhh] at HAV
  rw [← hV] at HAV ⊢
  have HH := Lib.hid hhh.symm
  unfold ev at *
  clear hmb hhh hp hV hs hx hfi hfh
  go_enter Try.func26, Try.ntmps26
  go_wp2_with ((with_reducible show wpList _ _ _ (⟨some 10, _, _, _, _, _⟩ :: _) _ _); refine wpList_load_ent rfl _ rfl rfl HW0.out ?_)
  refine (MAY.out _).mono ?_
  rintro e w2 ⟨rfl, hb2⟩
  have hr2 := range_keep HW0.out (hb2.block w.heap.size (by simp))
  have HR2 := Lib.hid hr2
  have hrn2 := range_name hr2
  have HB2 := Lib.hid (((Below.refl w.heap.size w).alloc (Nat.le_refl _) _).trans (Below.mono hb2 (by simp)))
  have hlt2 : w.heap.size < w2.heap.size := by have := hb2.size; simp at this; omega
  clear hb2 hr2
  cases mb
  · have HV : Hid (V = ([], 1)) := Lib.hid HAV.out
    clear HAV
    go_wp2_with fail
    go_ret2
    exact ResA.none HV.out HB2.out
  · go_wp2_with fail
    refine (FND.out _ (HS.out.on (Nat.le_refl _) HB2.out)).mono ?_
    rintro e w' ⟨rfl, rfl⟩
    cases hh
    rotate_left
    · have HV : Hid (V = ([], 6)) := Lib.hid HAV.out
      clear HAV
      go_wp2_with fail
      go_ret2
      exact ResA.none HV.out HB2.out
    · by_cases h64 : 64 ≤ l.length
      · have HV : Hid (V = ([], 5)) := Lib.hid (HAV.out.trans (if_pos h64))
        have h64I : (64 : Int) ≤ (l.length : Int) := by omega
        clear HAV
        go_wp2_with fail
        go_ret2
        exact ResA.none HV.out HB2.out
      · have HV : Hid (V = (ins l x, 0)) := Lib.hid (HAV.out.trans (if_neg h64))
        have h64I : (l.length : Int) < 64 := by omega
        obtain ⟨q, hq⟩ : ∃ q, p + q = l.length := ⟨l.length - p, by omega⟩
        obtain ⟨ts, hts⟩ : ∃ ts, ts = l.take p := ⟨_, rfl⟩
        obtain ⟨xs, hxs⟩ : ∃ xs, xs = (l.drop p).take q := ⟨_, rfl⟩
        have hxe : xs = l.drop p := by rw [hxs, List.take_of_length_le (by rw [List.length_drop]; omega)]
        have HVL : Hid ((ins l x).length = p + 1 + q) := Lib.hid (by rw [HINS.out, List.length_append, List.length_cons, List.length_take, List.length_drop]; omega)
        have HECS : Hid (ecs ts ++ ecs [x] ++ ecs xs = ecs (ins l x)) := Lib.hid (by rw [HINS.out, ← ecs_append, ← ecs_append, List.append_assoc, hts, hxe]; rfl)
        have HTS := Lib.hid hts
        have HXS := Lib.hid hxs
        have hqa : p + q ≤ l.length := by omega
        have hqb : l.length ≤ p + q := by omega
        clear HAV hq hts hxs hxe hrn2 h64
        go_wp2_with fail
        go_loopw [8] (fun kv wr => ∃ k : Nat, p ≤ k ∧ k ≤ l.length ∧ kv = .int .i64 (k : Int) ∧ Below w.heap.size w wr ∧ wr.rangeAt w.heap.size 0 [.string x.1, .int .i64 x.2]) (fun kv _ => (intOf kv).toNat)
        case atStart => exact ⟨l.length, by omega, by omega, rfl, HB2.out, HR2.out⟩
        case round =>
          obtain ⟨k, hpk, hkl2, rfl, hbel, hrng⟩ := hrel
          have HBR := Lib.hid hbel
          have HRR := Lib.hid hrng
          have HXN := Lib.hid (range_name hrng)
          have hbx := World.block_lt_of_cell? _ _ HXN.out
          dsimp only at hbx
          clear hbel hrng
          rcases Nat.eq_zero_or_pos k with hk0 | hk0
          · have hk0I : (k : Int) ≤ 0 := by omega
            obtain rfl : p = k := by omega
            clear hk0
            go_wp2_with fail
            refine wp_region_rely (by kernel_rfl) (fun d u w' => match d with
              | 26 => u = (.int .i64 (p : Int) : Value)
              | 27 => u = (.bool false : Value)
              | 28 => u = (.bool false : Value)
              | 29 => u = (Go.undef : Value)
              | 30 => u = (Go.undef : Value)
              | 31 => u = (Go.undef : Value)
              | 32 => u = (Go.undef : Value)
              | 33 => u = (Go.undef : Value)
              | 34 => u = (Go.undef : Value)
              | 35 => u = (Go.undef : Value)
              | 36 => u = (Go.undef : Value)
              | 37 => u = (Go.undef : Value)
              | 38 => u = (.bool false : Value)
              | _ => True) 55 rfl (by decide +kernel) [38] ?_ ?_
            · refine AllSteps.cons (Step.move _ rfl rfl fun a w' hl => hl.old 8 rfl) ?_
              refine AllSteps.cons (Step.plain rfl fun a w' K hl hK => ?_) ?_
              · obtain ⟨_, _, _, h26⟩ := hl.dep 0 26 rfl rfl
                replace h26 : a.eval (.tmp 26) = _ := h26
                have hconst : ∀ x, a.eval (.const x) = x := fun _ => rfl
                refine wp_val (.bool false) ?_ (hK _ _ (Kept.refl _) rfl)
                clear hl hK
                generalize a.eval = ρ at *
                simp [execOp, go_sem, h26, hconst]
                try omega
              refine AllSteps.cons (Step.move _ rfl rfl fun a w' hl => let ⟨_, _, _, h⟩ := hl.dep 1 27 rfl rfl; h) ?_
              refine AllSteps.cons (Step.no 2 true 28 rfl rfl rfl (fun u w h => by rw [show u = (.bool false : Value) from h]; intro h'; cases h') (fun _ => rfl)) ?_
              refine AllSteps.cons (Step.no 2 true 28 rfl rfl rfl (fun u w h => by rw [show u = (.bool false : Value) from h]; intro h'; cases h') (fun _ => rfl)) ?_
              refine AllSteps.cons (Step.no 2 true 28 rfl rfl rfl (fun u w h => by rw [show u = (.bool false : Value) from h]; intro h'; cases h') (fun _ => rfl)) ?_
              refine AllSteps.cons (Step.no 2 true 28 rfl rfl rfl (fun u w h => by rw [show u = (.bool false : Value) from h]; intro h'; cases h') (fun _ => rfl)) ?_
              refine AllSteps.cons (Step.no 2 true 28 rfl rfl rfl (fun u w h => by rw [show u = (.bool false : Value) from h]; intro h'; cases h') (fun _ => rfl)) ?_
              refine AllSteps.cons (Step.no 2 true 28 rfl rfl rfl (fun u w h => by rw [show u = (.bool false : Value) from h]; intro h'; cases h') (fun _ => rfl)) ?_
              refine AllSteps.cons (Step.no 2 true 28 rfl rfl rfl (fun u w h => by rw [show u = (.bool false : Value) from h]; intro h'; cases h') (fun _ => rfl)) ?_
              refine AllSteps.cons (Step.no 2 true 28 rfl rfl rfl (fun u w h => by rw [show u = (.bool false : Value) from h]; intro h'; cases h') (fun _ => rfl)) ?_
              refine AllSteps.cons (Step.no 2 true 28 rfl rfl rfl (fun u w h => by rw [show u = (.bool false : Value) from h]; intro h'; cases h') (fun _ => rfl)) ?_
              refine AllSteps.cons (Step.plain rfl fun a w' K hl hK => ?_) ?_
              · obtain ⟨_, _, _, h28⟩ := hl.dep 2 28 rfl rfl
                replace h28 : a.eval (.tmp 28) = _ := h28
                obtain ⟨_, _, _, h37⟩ := hl.dep 11 37 rfl rfl
                replace h37 : a.eval (.tmp 37) = _ := h37
                exact wp_pick rfl false h28 (hK _ _ (Kept.refl _) rfl)
              exact AllSteps.nil
            · intro f w9 hk9 hf
              obtain ⟨_, _, hres⟩ := hf 38 rfl rfl
              replace hres : f 38 = .bool false := hres
              simp only [Exit.then, fill, dsts, List.filterMap_cons, List.filterMap_nil, List.foldl_cons, List.foldl_nil, Act.put, hres, List.setIfInBounds_toArray, List.set_cons_succ, List.set_cons_zero]
              clear hf
              have HB9 := Lib.hid (HBR.out.trans (Below.mono hk9 HBR.out.size))
              have HR9 := Lib.hid (range_keep HRR.out (hk9.block w.heap.size hbx))
              have hlt9 : w.heap.size < w9.heap.size := Nat.lt_of_lt_of_le hbx hk9.size
              clear hk9
              have HS9 := Lib.hid (sl_take (HS.out.below HB9.out) (show p ≤ l.length by omega))
              rw [← HTS.out] at HS9
              go_wp2_with (first
                | ((with_reducible show wpList _ _ _ (⟨some 45, _, _, _, _, _⟩ :: _) _ _); refine wpList_append_mine rfl _ (.tmp 44) _ _ rfl (w.heap.size + 1) 40 i0 (.agg #[.string ByteArray.empty, .int .i64 0]) 2 24 hz1 hz2 rfl (by decide) _ _ _ rfl Mine.nil _ p (ecs ts) rfl (Gives.slice Try.underlying22 hi hz0 (by rw [hz1]; exact HS9.out) (ecs_one _)) (by simp only [maxLen]; omega) (by omega) hlt9 ?_; intro A3 c3 w3 hm3 hg3 hb3 hat3 hown3; simp only [Nat.zero_add, List.nil_append] at hm3; have HM3 := Lib.hid hm3; have HB3 := Lib.hid (HB9.out.trans (Below.mono hb3 (Nat.le_succ _))); have HR3 := Lib.hid (range_keep HR9.out (hb3.block w.heap.size (Nat.lt_succ_self _))); have hlt3 : w.heap.size < w3.heap.size := Nat.lt_of_lt_of_le hlt9 hb3.size; clear hm3 hg3 hb3 hat3 hown3)
                | ((with_reducible show wpList _ _ _ (⟨some 47, _, _, _, _, _⟩ :: _) _ _); refine wpList_load_ent rfl _ rfl rfl HR3.out ?_)
                | ((with_reducible show wpList _ _ _ (⟨some 49, _, _, _, _, _⟩ :: _) _ _); refine wpList_append_mine rfl _ (.tmp 48) _ _ rfl (w.heap.size + 1) 40 i0 (.agg #[.string ByteArray.empty, .int .i64 0]) 2 24 hz1 hz2 rfl (by decide) _ _ _ rfl (Mine.alloc HM3.out _) _ 1 (ecs [x]) rfl (Gives.ent Try.underlying22 hi hz0 hz1 x) (by simp only [maxLen]; omega) (by omega) (by simp; omega) ?_; intro A5 c5 w5 hm5 hg5 hb5 hat5 hown5; have HM5 := Lib.hid hm5; have HB5 := Lib.hid ((HB3.out.alloc HB3.out.size _).trans (Below.mono hb5 (Nat.le_succ _))); have hlt5 : w.heap.size < w5.heap.size := Nat.lt_of_lt_of_le hlt3 (Nat.le_trans (by simp) hb5.size); clear hm5 hg5 hb5 hat5 hown5)
                | ((with_reducible show wpList _ _ _ (⟨some 53, _, _, _, _, _⟩ :: _) _ _); refine wpList_slice_sl rfl 22 _ _ _ _ rfl 40 i0 2 Try.underlying22 hi hz1 _ _ _ rfl p q (c - p) (.inr ⟨_, _, rfl, rfl⟩) (.inl ⟨rfl, rfl, by omega⟩) (.inl ⟨rfl, by omega⟩) (by omega) (by omega) (by omega) (HS.out.below HB5.out) ?_; intro A6 hs6; rw [ecs_drop, ecs_take, ← HXS.out] at hs6; have HS6 := Lib.hid hs6; clear hs6)
                | ((with_reducible show wpList _ _ _ (⟨some 54, _, _, _, _, _⟩ :: _) _ _); refine wpList_append_mine rfl _ (.tmp 53) _ _ rfl (w.heap.size + 1) 40 i0 (.agg #[.string ByteArray.empty, .int .i64 0]) 2 24 hz1 hz2 rfl (by decide) _ _ _ rfl HM5.out _ q (ecs xs) rfl (Gives.slice Try.underlying22 hi hz0 (by rw [hz1]; exact HS6.out) (ecs_one _)) (by simp only [maxLen]; omega) (by omega) hlt5 ?_; intro A7 c7 w7 hm7 hg7 hb7 hat7 hown7; have HM7 := Lib.hid hm7; have HB7 := Lib.hid (HB5.out.trans (Below.mono hb7 (Nat.le_succ _))); clear hm7 hg7 hb7 hat7 hown7))
              go_ret2
              obtain ⟨A8, c8, hv, hc8, hm8, hs8⟩ := HM7.out.form
              injection hv with hv1 hv2 hv3
              subst hv1
              subst hv3
              rw [HV.out]
              refine ⟨A7, c7, ?_, ?_, ?_, hm8, HB7.out⟩
              · show _ = Ending.returned (.tuple #[.slice A7 (ins l x).length c7, .int .i64 0])
                rw [HVL.out] <;> rfl
              · show Sl w7 _ 2 A7 (ins l x).length (ecs (ins l x))
                rw [HVL.out, ← HECS.out]
                exact hs8
              · show (ins l x).length ≤ c7
                rw [HVL.out]
                exact hc8
          · obtain ⟨k1, hk1⟩ : ∃ k1, k1 + 1 = k := ⟨k - 1, by omega⟩
            have hk0I : (0 : Int) < (k : Int) := by omega
            obtain ⟨y, hy⟩ : ∃ y, l[k1]? = some y := ⟨_, List.getElem?_eq_getElem (by omega)⟩
            have hA : ∃ b off, A = some ⟨b, off, none⟩ := by
              obtain ⟨b, off, e, _⟩ := HS.out.at (by omega) (by decide)
              exact ⟨b, off, e⟩
            obtain ⟨b, off, rfl⟩ := hA
            obtain ⟨hry, hb0⟩ := ent_range (HS.out.below HBR.out) hy
            have HYN := Lib.hid (range_name hry)
            have hbb := World.block_lt_of_cell? _ _ HYN.out
            dsimp only at hbb
            have hdn := pos_down hsrt hy (s := x.1)
            have hst := pos_stop hsrt hy (s := x.1)
            rw [← HP.out] at hdn hst
            obtain ⟨ys, yi⟩ := y
            dsimp only at HYN hdn hst
            have hka : k1 + 1 ≤ k := by omega
            have hkb : k ≤ k1 + 1 := by omega
            clear hry hy hk1
            cases hcmp : lt x.1 ys
            · have HC : Hid (lt x.1 ys = false) := Lib.hid hcmp
              obtain rfl : p = k := by
                have := hst HH.out hcmp (by omega)
                omega
              clear hdn hst hcmp
              go_wp2_with fail
              refine wp_region_rely (by kernel_rfl) (fun d u w' => match d with
                | 26 => u = (.int .i64 (p : Int) : Value)
                | 27 => u = (.bool true : Value)
                | 28 => u = (.bool true : Value)
                | 29 => u = (.pointer (some ⟨w.heap.size, 0, none⟩) : Value)
                | 30 => u = (.string x.1 : Value)
                | 31 => u = (.slice (some ⟨b, off, none⟩) l.length c : Value)
                | 32 => u = (.int .i64 (p : Int) : Value)
                | 33 => u = (.int .i64 ((k1 : Nat) : Int) : Value)
                | 34 => u = (.pointer (some ⟨b, off + k1 * 2, none⟩) : Value)
                | 35 => u = (.pointer (some ⟨b, off + k1 * 2, none⟩) : Value)
                | 36 => u = (.string ys : Value)
                | 37 => u = (.bool false : Value)
                | 38 => u = (.bool false : Value)
                | _ => True) 55 rfl (by decide +kernel) [38] ?_ ?_
              · refine AllSteps.cons (Step.move _ rfl rfl fun a w' hl => hl.old 8 rfl) ?_
                refine AllSteps.cons (Step.plain rfl fun a w' K hl hK => ?_) ?_
                · obtain ⟨_, _, _, h26⟩ := hl.dep 0 26 rfl rfl
                  replace h26 : a.eval (.tmp 26) = _ := h26
                  have hconst : ∀ x, a.eval (.const x) = x := fun _ => rfl
                  refine wp_val (.bool true) ?_ (hK _ _ (Kept.refl _) rfl)
                  clear hl hK
                  generalize a.eval = ρ at *
                  simp [execOp, go_sem, h26, hconst]
                  try omega
                refine AllSteps.cons (Step.move _ rfl rfl fun a w' hl => let ⟨_, _, _, h⟩ := hl.dep 1 27 rfl rfl; h) ?_
                refine AllSteps.cons (Step.yes 2 true 28 rfl rfl rfl (fun _ _ h => h) fun a w' K hl hK => ?_) ?_
                · have h3 : a.eval (.tmp 3) = (.pointer (some ⟨w.heap.size, 0, none⟩) : Value) := hl.old 3 rfl
                  refine wp_val (.pointer (some ⟨w.heap.size, 0, none⟩)) ?_ (hK _ _ (Kept.refl _) rfl)
                  clear hl hK
                  generalize a.eval = ρ at *
                  simp [execOp, go_sem, h3]
                  try (intro h; omega)
                refine AllSteps.cons (Step.yes 2 true 28 rfl rfl rfl (fun _ _ h => h) fun a w' K hl hK => ?_) ?_
                · obtain ⟨_, _, _, h29⟩ := hl.dep 3 29 rfl rfl
                  replace h29 : a.eval (.tmp 29) = _ := h29
                  have hcell := (Below.cell hl.kept (p := ⟨w.heap.size, 0, none⟩) hbx).trans HXN.out
                  refine wp_val (.string x.1) ?_ (hK _ _ (Kept.refl _) rfl)
                  clear hl hK
                  generalize a.eval = ρ at *
                  simp [execOp, go_sem, h29, hcell]
                refine AllSteps.cons (Step.yes 2 true 28 rfl rfl rfl (fun _ _ h => h) fun a w' K hl hK => ?_) ?_
                · have h0 : a.eval (.tmp 0) = (.slice (some ⟨b, off, none⟩) l.length c : Value) := hl.old 0 rfl
                  exact wp_val (a.eval (.tmp 0)) rfl (hK _ _ (Kept.refl _) h0)
                refine AllSteps.cons (Step.yes 2 true 28 rfl rfl rfl (fun _ _ h => h) fun a w' K hl hK => ?_) ?_
                · have h8 : a.eval (.tmp 8) = (.int .i64 (p : Int) : Value) := hl.old 8 rfl
                  exact wp_val (a.eval (.tmp 8)) rfl (hK _ _ (Kept.refl _) h8)
                refine AllSteps.cons (Step.yes 2 true 28 rfl rfl rfl (fun _ _ h => h) fun a w' K hl hK => ?_) ?_
                · obtain ⟨_, _, _, h32⟩ := hl.dep 6 32 rfl rfl
                  replace h32 : a.eval (.tmp 32) = _ := h32
                  have hconst : ∀ x, a.eval (.const x) = x := fun _ => rfl
                  refine wp_val (.int .i64 ((k1 : Nat) : Int)) ?_ (hK _ _ (Kept.refl _) rfl)
                  clear hl hK
                  generalize a.eval = ρ at *
                  simp [execOp, go_sem, h32, hconst]
                  rw [IntKind.wrap_i64]
                  omega
                refine AllSteps.cons (Step.yes 2 true 28 rfl rfl rfl (fun _ _ h => h) fun a w' K hl hK => ?_) ?_
                · obtain ⟨_, _, _, h31⟩ := hl.dep 5 31 rfl rfl
                  replace h31 : a.eval (.tmp 31) = _ := h31
                  obtain ⟨_, _, _, h33⟩ := hl.dep 7 33 rfl rfl
                  replace h33 : a.eval (.tmp 33) = _ := h33
                  refine wp_val (.pointer (some ⟨b, off + k1 * 2, none⟩)) ?_ (hK _ _ (Kept.refl _) rfl)
                  clear hl hK
                  generalize a.eval = ρ at *
                  simp [execOp, go_sem, h31, h33]
                  try (intro h; omega)
                refine AllSteps.cons (Step.yes 2 true 28 rfl rfl rfl (fun _ _ h => h) fun a w' K hl hK => ?_) ?_
                · obtain ⟨_, _, _, h34⟩ := hl.dep 8 34 rfl rfl
                  replace h34 : a.eval (.tmp 34) = _ := h34
                  refine wp_val (.pointer (some ⟨b, off + k1 * 2, none⟩)) ?_ (hK _ _ (Kept.refl _) rfl)
                  clear hl hK
                  generalize a.eval = ρ at *
                  simp [execOp, go_sem, h34]
                  try (intro h; omega)
                refine AllSteps.cons (Step.yes 2 true 28 rfl rfl rfl (fun _ _ h => h) fun a w' K hl hK => ?_) ?_
                · obtain ⟨_, _, _, h35⟩ := hl.dep 9 35 rfl rfl
                  replace h35 : a.eval (.tmp 35) = _ := h35
                  have hcell := (Below.cell hl.kept (p := ⟨b, off + k1 * 2, none⟩) hbb).trans HYN.out
                  refine wp_val (.string ys) ?_ (hK _ _ (Kept.refl _) rfl)
                  clear hl hK
                  generalize a.eval = ρ at *
                  simp [execOp, go_sem, h35, hcell]
                refine AllSteps.cons (Step.yes 2 true 28 rfl rfl rfl (fun _ _ h => h) fun a w' K hl hK => ?_) ?_
                · obtain ⟨_, _, _, h30⟩ := hl.dep 4 30 rfl rfl
                  replace h30 : a.eval (.tmp 30) = _ := h30
                  obtain ⟨_, _, _, h36⟩ := hl.dep 10 36 rfl rfl
                  replace h36 : a.eval (.tmp 36) = _ := h36
                  exact wp_lss_str rfl h30 h36 _ HC.out (hK _ _ (Kept.refl _) rfl)
                refine AllSteps.cons (Step.plain rfl fun a w' K hl hK => ?_) ?_
                · obtain ⟨_, _, _, h28⟩ := hl.dep 2 28 rfl rfl
                  replace h28 : a.eval (.tmp 28) = _ := h28
                  obtain ⟨_, _, _, h37⟩ := hl.dep 11 37 rfl rfl
                  replace h37 : a.eval (.tmp 37) = _ := h37
                  exact wp_pick rfl true h28 (hK _ _ (Kept.refl _) h37)
                exact AllSteps.nil
              · intro f w9 hk9 hf
                obtain ⟨_, _, hres⟩ := hf 38 rfl rfl
                replace hres : f 38 = .bool false := hres
                simp only [Exit.then, fill, dsts, List.filterMap_cons, List.filterMap_nil, List.foldl_cons, List.foldl_nil, Act.put, hres, List.setIfInBounds_toArray, List.set_cons_succ, List.set_cons_zero]
                clear hf
                have HB9 := Lib.hid (HBR.out.trans (Below.mono hk9 HBR.out.size))
                have HR9 := Lib.hid (range_keep HRR.out (hk9.block w.heap.size hbx))
                have hlt9 : w.heap.size < w9.heap.size := Nat.lt_of_lt_of_le hbx hk9.size
                clear hk9
                have HS9 := Lib.hid (sl_take (HS.out.below HB9.out) (show p ≤ l.length by omega))
                rw [← HTS.out] at HS9
                go_wp2_with (first
                  | ((with_reducible show wpList _ _ _ (⟨some 45, _, _, _, _, _⟩ :: _) _ _); refine wpList_append_mine rfl _ (.tmp 44) _ _ rfl (w.heap.size + 1) 40 i0 (.agg #[.string ByteArray.empty, .int .i64 0]) 2 24 hz1 hz2 rfl (by decide) _ _ _ rfl Mine.nil _ p (ecs ts) rfl (Gives.slice Try.underlying22 hi hz0 (by rw [hz1]; exact HS9.out) (ecs_one _)) (by simp only [maxLen]; omega) (by omega) hlt9 ?_; intro A3 c3 w3 hm3 hg3 hb3 hat3 hown3; simp only [Nat.zero_add, List.nil_append] at hm3; have HM3 := Lib.hid hm3; have HB3 := Lib.hid (HB9.out.trans (Below.mono hb3 (Nat.le_succ _))); have HR3 := Lib.hid (range_keep HR9.out (hb3.block w.heap.size (Nat.lt_succ_self _))); have hlt3 : w.heap.size < w3.heap.size := Nat.lt_of_lt_of_le hlt9 hb3.size; clear hm3 hg3 hb3 hat3 hown3)
                  | ((with_reducible show wpList _ _ _ (⟨some 47, _, _, _, _, _⟩ :: _) _ _); refine wpList_load_ent rfl _ rfl rfl HR3.out ?_)
                  | ((with_reducible show wpList _ _ _ (⟨some 49, _, _, _, _, _⟩ :: _) _ _); refine wpList_append_mine rfl _ (.tmp 48) _ _ rfl (w.heap.size + 1) 40 i0 (.agg #[.string ByteArray.empty, .int .i64 0]) 2 24 hz1 hz2 rfl (by decide) _ _ _ rfl (Mine.alloc HM3.out _) _ 1 (ecs [x]) rfl (Gives.ent Try.underlying22 hi hz0 hz1 x) (by simp only [maxLen]; omega) (by omega) (by simp; omega) ?_; intro A5 c5 w5 hm5 hg5 hb5 hat5 hown5; have HM5 := Lib.hid hm5; have HB5 := Lib.hid ((HB3.out.alloc HB3.out.size _).trans (Below.mono hb5 (Nat.le_succ _))); have hlt5 : w.heap.size < w5.heap.size := Nat.lt_of_lt_of_le hlt3 (Nat.le_trans (by simp) hb5.size); clear hm5 hg5 hb5 hat5 hown5)
                  | ((with_reducible show wpList _ _ _ (⟨some 53, _, _, _, _, _⟩ :: _) _ _); refine wpList_slice_sl rfl 22 _ _ _ _ rfl 40 i0 2 Try.underlying22 hi hz1 _ _ _ rfl p q (c - p) (.inr ⟨_, _, rfl, rfl⟩) (.inl ⟨rfl, rfl, by omega⟩) (.inl ⟨rfl, by omega⟩) (by omega) (by omega) (by omega) (HS.out.below HB5.out) ?_; intro A6 hs6; rw [ecs_drop, ecs_take, ← HXS.out] at hs6; have HS6 := Lib.hid hs6; clear hs6)
                  | ((with_reducible show wpList _ _ _ (⟨some 54, _, _, _, _, _⟩ :: _) _ _); refine wpList_append_mine rfl _ (.tmp 53) _ _ rfl (w.heap.size + 1) 40 i0 (.agg #[.string ByteArray.empty, .int .i64 0]) 2 24 hz1 hz2 rfl (by decide) _ _ _ rfl HM5.out _ q (ecs xs) rfl (Gives.slice Try.underlying22 hi hz0 (by rw [hz1]; exact HS6.out) (ecs_one _)) (by simp only [maxLen]; omega) (by omega) hlt5 ?_; intro A7 c7 w7 hm7 hg7 hb7 hat7 hown7; have HM7 := Lib.hid hm7; have HB7 := Lib.hid (HB5.out.trans (Below.mono hb7 (Nat.le_succ _))); clear hm7 hg7 hb7 hat7 hown7))
                go_ret2
                obtain ⟨A8, c8, hv, hc8, hm8, hs8⟩ := HM7.out.form
                injection hv with hv1 hv2 hv3
                subst hv1
                subst hv3
                rw [HV.out]
                refine ⟨A7, c7, ?_, ?_, ?_, hm8, HB7.out⟩
                · show _ = Ending.returned (.tuple #[.slice A7 (ins l x).length c7, .int .i64 0])
                  rw [HVL.out] <;> rfl
                · show Sl w7 _ 2 A7 (ins l x).length (ecs (ins l x))
                  rw [HVL.out, ← HECS.out]
                  exact hs8
                · show (ins l x).length ≤ c7
                  rw [HVL.out]
                  exact hc8
            · have HC : Hid (lt x.1 ys = true) := Lib.hid hcmp
              have hpk1 : p ≤ k1 := hdn hcmp
              clear hdn hst hcmp
              go_wp2_with fail
              refine wp_region_rely (by kernel_rfl) (fun d u w' => match d with
                | 26 => u = (.int .i64 (k : Int) : Value)
                | 27 => u = (.bool true : Value)
                | 28 => u = (.bool true : Value)
                | 29 => u = (.pointer (some ⟨w.heap.size, 0, none⟩) : Value)
                | 30 => u = (.string x.1 : Value)
                | 31 => u = (.slice (some ⟨b, off, none⟩) l.length c : Value)
                | 32 => u = (.int .i64 (k : Int) : Value)
                | 33 => u = (.int .i64 ((k1 : Nat) : Int) : Value)
                | 34 => u = (.pointer (some ⟨b, off + k1 * 2, none⟩) : Value)
                | 35 => u = (.pointer (some ⟨b, off + k1 * 2, none⟩) : Value)
                | 36 => u = (.string ys : Value)
                | 37 => u = (.bool true : Value)
                | 38 => u = (.bool true : Value)
                | _ => True) 55 rfl (by decide +kernel) [38] ?_ ?_
              · refine AllSteps.cons (Step.move _ rfl rfl fun a w' hl => hl.old 8 rfl) ?_
                refine AllSteps.cons (Step.plain rfl fun a w' K hl hK => ?_) ?_
                · obtain ⟨_, _, _, h26⟩ := hl.dep 0 26 rfl rfl
                  replace h26 : a.eval (.tmp 26) = _ := h26
                  have hconst : ∀ x, a.eval (.const x) = x := fun _ => rfl
                  refine wp_val (.bool true) ?_ (hK _ _ (Kept.refl _) rfl)
                  clear hl hK
                  generalize a.eval = ρ at *
                  simp [execOp, go_sem, h26, hconst]
                  try omega
                refine AllSteps.cons (Step.move _ rfl rfl fun a w' hl => let ⟨_, _, _, h⟩ := hl.dep 1 27 rfl rfl; h) ?_
                refine AllSteps.cons (Step.yes 2 true 28 rfl rfl rfl (fun _ _ h => h) fun a w' K hl hK => ?_) ?_
                · have h3 : a.eval (.tmp 3) = (.pointer (some ⟨w.heap.size, 0, none⟩) : Value) := hl.old 3 rfl
                  refine wp_val (.pointer (some ⟨w.heap.size, 0, none⟩)) ?_ (hK _ _ (Kept.refl _) rfl)
                  clear hl hK
                  generalize a.eval = ρ at *
                  simp [execOp, go_sem, h3]
                  try (intro h; omega)
                refine AllSteps.cons (Step.yes 2 true 28 rfl rfl rfl (fun _ _ h => h) fun a w' K hl hK => ?_) ?_
                · obtain ⟨_, _, _, h29⟩ := hl.dep 3 29 rfl rfl
                  replace h29 : a.eval (.tmp 29) = _ := h29
                  have hcell := (Below.cell hl.kept (p := ⟨w.heap.size, 0, none⟩) hbx).trans HXN.out
                  refine wp_val (.string x.1) ?_ (hK _ _ (Kept.refl _) rfl)
                  clear hl hK
                  generalize a.eval = ρ at *
                  simp [execOp, go_sem, h29, hcell]
                refine AllSteps.cons (Step.yes 2 true 28 rfl rfl rfl (fun _ _ h => h) fun a w' K hl hK => ?_) ?_
                · have h0 : a.eval (.tmp 0) = (.slice (some ⟨b, off, none⟩) l.length c : Value) := hl.old 0 rfl
                  exact wp_val (a.eval (.tmp 0)) rfl (hK _ _ (Kept.refl _) h0)
                refine AllSteps.cons (Step.yes 2 true 28 rfl rfl rfl (fun _ _ h => h) fun a w' K hl hK => ?_) ?_
                · have h8 : a.eval (.tmp 8) = (.int .i64 (k : Int) : Value) := hl.old 8 rfl
                  exact wp_val (a.eval (.tmp 8)) rfl (hK _ _ (Kept.refl _) h8)
                refine AllSteps.cons (Step.yes 2 true 28 rfl rfl rfl (fun _ _ h => h) fun a w' K hl hK => ?_) ?_
                · obtain ⟨_, _, _, h32⟩ := hl.dep 6 32 rfl rfl
                  replace h32 : a.eval (.tmp 32) = _ := h32
                  have hconst : ∀ x, a.eval (.const x) = x := fun _ => rfl
                  refine wp_val (.int .i64 ((k1 : Nat) : Int)) ?_ (hK _ _ (Kept.refl _) rfl)
                  clear hl hK
                  generalize a.eval = ρ at *
                  simp [execOp, go_sem, h32, hconst]
                  rw [IntKind.wrap_i64]
                  omega
                refine AllSteps.cons (Step.yes 2 true 28 rfl rfl rfl (fun _ _ h => h) fun a w' K hl hK => ?_) ?_
                · obtain ⟨_, _, _, h31⟩ := hl.dep 5 31 rfl rfl
                  replace h31 : a.eval (.tmp 31) = _ := h31
                  obtain ⟨_, _, _, h33⟩ := hl.dep 7 33 rfl rfl
                  replace h33 : a.eval (.tmp 33) = _ := h33
                  refine wp_val (.pointer (some ⟨b, off + k1 * 2, none⟩)) ?_ (hK _ _ (Kept.refl _) rfl)
                  clear hl hK
                  generalize a.eval = ρ at *
                  simp [execOp, go_sem, h31, h33]
                  try (intro h; omega)
                refine AllSteps.cons (Step.yes 2 true 28 rfl rfl rfl (fun _ _ h => h) fun a w' K hl hK => ?_) ?_
                · obtain ⟨_, _, _, h34⟩ := hl.dep 8 34 rfl rfl
                  replace h34 : a.eval (.tmp 34) = _ := h34
                  refine wp_val (.pointer (some ⟨b, off + k1 * 2, none⟩)) ?_ (hK _ _ (Kept.refl _) rfl)
                  clear hl hK
                  generalize a.eval = ρ at *
                  simp [execOp, go_sem, h34]
                  try (intro h; omega)
                refine AllSteps.cons (Step.yes 2 true 28 rfl rfl rfl (fun _ _ h => h) fun a w' K hl hK => ?_) ?_
                · obtain ⟨_, _, _, h35⟩ := hl.dep 9 35 rfl rfl
                  replace h35 : a.eval (.tmp 35) = _ := h35
                  have hcell := (Below.cell hl.kept (p := ⟨b, off + k1 * 2, none⟩) hbb).trans HYN.out
                  refine wp_val (.string ys) ?_ (hK _ _ (Kept.refl _) rfl)
                  clear hl hK
                  generalize a.eval = ρ at *
                  simp [execOp, go_sem, h35, hcell]
                refine AllSteps.cons (Step.yes 2 true 28 rfl rfl rfl (fun _ _ h => h) fun a w' K hl hK => ?_) ?_
                · obtain ⟨_, _, _, h30⟩ := hl.dep 4 30 rfl rfl
                  replace h30 : a.eval (.tmp 30) = _ := h30
                  obtain ⟨_, _, _, h36⟩ := hl.dep 10 36 rfl rfl
                  replace h36 : a.eval (.tmp 36) = _ := h36
                  exact wp_lss_str rfl h30 h36 _ HC.out (hK _ _ (Kept.refl _) rfl)
                refine AllSteps.cons (Step.plain rfl fun a w' K hl hK => ?_) ?_
                · obtain ⟨_, _, _, h28⟩ := hl.dep 2 28 rfl rfl
                  replace h28 : a.eval (.tmp 28) = _ := h28
                  obtain ⟨_, _, _, h37⟩ := hl.dep 11 37 rfl rfl
                  replace h37 : a.eval (.tmp 37) = _ := h37
                  exact wp_pick rfl true h28 (hK _ _ (Kept.refl _) h37)
                exact AllSteps.nil
              · intro f w9 hk9 hf
                obtain ⟨_, _, hres⟩ := hf 38 rfl rfl
                replace hres : f 38 = .bool true := hres
                simp only [Exit.then, fill, dsts, List.filterMap_cons, List.filterMap_nil, List.foldl_cons, List.foldl_nil, Act.put, hres, List.setIfInBounds_toArray, List.set_cons_succ, List.set_cons_zero]
                clear hf
                have HB9 := Lib.hid (HBR.out.trans (Below.mono hk9 HBR.out.size))
                have HR9 := Lib.hid (range_keep HRR.out (hk9.block w.heap.size hbx))
                have hlt9 : w.heap.size < w9.heap.size := Nat.lt_of_lt_of_le hbx hk9.size
                clear hk9
                go_wp2_with fail
                go_roundw
                case rel => exact ⟨k1, by omega, by omega, by go_num, HB9.out, HR9.out⟩
                case measure => simp [intOf]; omega
set_option maxRecDepth 100000 in
set_option maxHeartbeats 3200000 in
theorem rremove_any (A : Option Addr) (l : List En) (c : Nat) (s : ByteArray) (w : World) (hs : Sl w w.heap.size 2 A l.length (ecs l)) (hc : l.length ≤ c) (hsrt : Srt l) (hk : l.length ≤ 1000) :
    Calls Try.prog 28 #[.slice A l.length c, .string s] w (ResA w (remV l s)) := by
  obtain ⟨i0, hi, hz0, hz1, hz2⟩ := info_parts infoEnt
  have HS := Lib.hid hs
  clear hs
  go_enter Try.func28, Try.ntmps28
  go_wp2_with fail
  go_loopw [6] (fun kv wr => ∃ p : Nat, p ≤ l.length ∧ kv = .int .i64 (p : Int) ∧ has (l.take p) s = false ∧ Below w.heap.size w wr) (fun kv _ => l.length - (intOf kv).toNat)
  case atStart => exact ⟨0, by omega, rfl, rfl, Below.refl _ _⟩
  case round =>
    obtain ⟨p, hpl, rfl, hno, hbel⟩ := hrel
    have HBR := Lib.hid hbel
    have HNO := Lib.hid hno
    clear hbel hno
    by_cases hlt : p < l.length
    · have hltI : (p : Int) < (l.length : Int) := by omega
      have hp0 : (0 : Int) ≤ (p : Int) := by omega
      obtain ⟨y, hy⟩ : ∃ y, l[p]? = some y := ⟨_, List.getElem?_eq_getElem hlt⟩
      have hA : ∃ b off, A = some ⟨b, off, none⟩ := by
        obtain ⟨b, off, e, _⟩ := HS.out.at (by omega) (by decide)
        exact ⟨b, off, e⟩
      obtain ⟨b, off, rfl⟩ := hA
      obtain ⟨hry, hb0⟩ := ent_range (HS.out.below HBR.out) hy
      have hyn := range_name hry
      have HU := Lib.hid (has_upto hy s)
      have hpa := pos_at hsrt hy
      have hhm := has_mem hy
      obtain ⟨ys, yi⟩ := y
      dsimp only at hyn hpa hhm HU
      clear hry hy
      by_cases he : ys = s
      · subst he
        have heb : (ys.toList == ys.toList) = true := eqS_self ys
        obtain ⟨A, hAA⟩ : ∃ A : Option Addr, A = some ⟨b, off, none⟩ := ⟨_, rfl⟩
        obtain ⟨q, hq⟩ : ∃ q, p + 1 + q = l.length := ⟨l.length - (p + 1), by omega⟩
        obtain ⟨ts, hts⟩ : ∃ ts, ts = l.take p := ⟨_, rfl⟩
        obtain ⟨xs, hxs⟩ : ∃ xs, xs = l.drop (p + 1) := ⟨_, rfl⟩
        have hdel : del l ys = l.take p ++ l.drop (p + 1) := by unfold del; rw [hpa]
        have HV : Hid (remV l ys = (del l ys, 0)) := Lib.hid (by unfold remV; rw [if_pos hhm])
        have HVL : Hid ((del l ys).length = p + q) := Lib.hid (by rw [hdel, List.length_append, List.length_take, List.length_drop]; omega)
        have HECS : Hid (ecs (ts ++ xs) = ecs (del l ys)) := Lib.hid (by rw [hdel, hts, hxs])
        obtain ⟨B0, hB0⟩ : ∃ B0, B0 = w.heap.size := ⟨_, rfl⟩
        have HBE := Lib.hid hB0
        have HB0 : Hid (B0 ≤ wr.heap.size) := Lib.hid (by rw [hB0]; exact HBR.out.size)
        obtain ⟨A5, hA5⟩ : ∃ A5, A5 = if c = p + 1 then (some (⟨b, off, none⟩ : Addr)) else (some (⟨b, off, none⟩ : Addr)).map (·.add ((p + 1) * 2)) := ⟨_, rfl⟩
        have HAE := Lib.hid hA5
        have HSRC : Hid (Sl wr B0 2 A5 q (ecs xs)) := Lib.hid (by
          have h := cut_sl (l := p + 1) (d := q) (c := c) (HS.out.below HBR.out) (by omega) (by omega)
          rw [← hxs, List.take_of_length_le (by rw [hxs, List.length_drop]; omega), ← hA5, ← hB0] at h
          exact h)
        obtain ⟨D, hD⟩ : ∃ D, D = if c = 0 then (some (⟨b, off, none⟩ : Addr)) else (some (⟨b, off, none⟩ : Addr)).map (·.add (0 * 2)) := ⟨_, rfl⟩
        have HDE := Lib.hid hD
        have HSD : Hid (Sl wr B0 2 D p (ecs ts)) := Lib.hid (by
          have h := cut_sl (l := 0) (d := p) (c := c) (HS.out.below HBR.out) (by omega) (by omega)
          rw [List.drop_zero, ← hts, ← hD, ← hB0] at h
          exact h)
        have hqa : p + 1 + q ≤ l.length := by omega
        have hqb : l.length ≤ p + 1 + q := by omega
        clear hAA hq hts hxs hdel hB0 hA5 hD hpa hhm HU A
        go_wp2_with fail
        refine wp_region_e B0 HB0.out (by kernel_rfl) (fun d u w' => match d with
          | 4 => ∃ A1 c1, u = .slice A1 (p + q) c1 ∧ Mine w' B0 40 2 u (p + q) (ecs (ts ++ xs))
          | 5 => u = (.int .i64 0 : Value)
          | 20 => u = (.slice (some ⟨b, off, none⟩) l.length c : Value)
          | 21 => u = (.int .i64 (p : Int) : Value)
          | 22 => u = (.slice D p (c - 0) : Value)
          | 23 => ∃ A1 c1, u = .slice A1 p c1 ∧ Mine w' B0 40 2 u p (ecs ts)
          | 24 => u = (.slice (some ⟨b, off, none⟩) l.length c : Value)
          | 25 => u = (.int .i64 (p : Int) : Value)
          | 26 => u = (.int .i64 ((p + 1 : Nat) : Int) : Value)
          | 27 => u = (.slice A5 q (c - (p + 1)) : Value)
          | 28 => ∃ A1 c1, u = .slice A1 (p + q) c1 ∧ Mine w' B0 40 2 u (p + q) (ecs (ts ++ xs))
          | _ => True) 29 rfl (by decide +kernel) [4, 5] 8 (fun _ => True) trivial (fun _ _ _ _ => trivial) ?_ ?_
        · refine AllSteps.cons (StepE.move _ rfl rfl fun a w' hl => hl.old 0 rfl) ?_
          refine AllSteps.cons (StepE.move _ rfl rfl fun a w' hl => hl.old 6 rfl) ?_
          refine AllSteps.cons (StepE.plain rfl fun a w' K hl hK => ?_) ?_
          · obtain ⟨_, _, _, h20⟩ := hl.dep 0 20 rfl rfl
            replace h20 : a.eval (.tmp 20) = _ := h20
            obtain ⟨_, _, _, h21⟩ := hl.dep 1 21 rfl rfl
            replace h21 : a.eval (.tmp 21) = _ := h21
            exact wp_slice_ent rfl h20 (.inl ⟨rfl, rfl⟩) (.inr (by rw [Nat.zero_add]; exact congrArg some h21)) (by omega) (by omega) HDE.out (hK _ _ (Kept.refl _) rfl)
          refine AllSteps.cons (StepE.plain rfl fun a w' K hl hK => ?_) ?_
          · obtain ⟨_, _, _, h22⟩ := hl.dep 2 22 rfl rfl
            replace h22 : a.eval (.tmp 22) = _ := h22
            exact wp_append_ents rfl B0 (Nat.le_trans HB0.out hl.kept.size) rfl (show Mine w' B0 40 2 (.slice none 0 0) 0 (ecs []) from Mine.nil) h22 (HSD.out.below hl.kept) (by omega) (fun A' c' wz hm hg hb2 => by
              rw [Nat.zero_add] at hm ⊢
              exact hK _ wz ((Below.refl _ _).grown hg (Nat.le_refl _) (fun k hk => by cases hk)) ⟨A', c', rfl, hm⟩)
          refine AllSteps.cons (StepE.move _ rfl rfl fun a w' hl => hl.old 0 rfl) ?_
          refine AllSteps.cons (StepE.move _ rfl rfl fun a w' hl => hl.old 6 rfl) ?_
          refine AllSteps.cons (StepE.plain rfl fun a w' K hl hK => ?_) ?_
          · obtain ⟨_, _, _, h25⟩ := hl.dep 5 25 rfl rfl
            replace h25 : a.eval (.tmp 25) = _ := h25
            have hconst : ∀ x, a.eval (.const x) = x := fun _ => rfl
            refine wp_val (.int .i64 ((p + 1 : Nat) : Int)) ?_ (hK _ _ (Kept.refl _) rfl)
            clear hl hK
            generalize a.eval = ρ at *
            simp [execOp, go_sem, h25, hconst]
            rw [IntKind.wrap_i64]
            omega
          refine AllSteps.cons (StepE.plain rfl fun a w' K hl hK => ?_) ?_
          · obtain ⟨_, _, _, h24⟩ := hl.dep 4 24 rfl rfl
            replace h24 : a.eval (.tmp 24) = _ := h24
            obtain ⟨_, _, _, h26⟩ := hl.dep 6 26 rfl rfl
            replace h26 : a.eval (.tmp 26) = _ := h26
            exact wp_slice_ent rfl h24 (.inr (congrArg some h26)) (.inl ⟨rfl, by omega⟩) (by omega) (by omega) HAE.out (hK _ _ (Kept.refl _) rfl)
          refine AllSteps.cons (StepE.raw rfl fun a w' K hl hK => ?_) ?_
          · obtain ⟨_, w1, hk1, A1, c1, h23, hm23⟩ := hl.dep 3 23 rfl rfl
            obtain ⟨_, _, _, h27⟩ := hl.dep 7 27 rfl rfl
            replace h27 : a.eval (.tmp 27) = _ := h27
            rw [h23] at hm23
            refine wp_append_ents rfl B0 (Nat.le_trans HB0.out hl.kept.size) h23 (Mine.on hm23 hk1) h27 (HSRC.out.below hl.kept) (by omega) (fun A' c' wz hm hg hb2 => hK _ wz hb2 (fun d u' hd hlv hlt hsn => ?_) (.inl rfl) ⟨A', c', rfl, hm⟩)
            obtain ⟨w8, hk8, h8⟩ := hsn
            refine ⟨wz, Kept.refl _, ?_⟩
            by_cases h15 : d = 23
            · subst h15; exact absurd hlv (by decide +kernel)
            by_cases h16 : d = 28
            · subst h16; exact absurd rfl hd
            by_cases h3 : d = 4
            · subst h3; exact absurd hlt (by decide +kernel)
            clear hl hK hlv hlt hd
            dsimp only at h8 ⊢
            split at h8 <;> first | exact h8 | exact absurd rfl h15 | exact absurd rfl h16 | exact absurd rfl h3 | (split <;> first | trivial | (exfalso; simp_all))
          refine AllSteps.cons (StepE.assign _ rfl rfl fun a w' hl => let ⟨_, _, hk, h⟩ := hl.dep 8 28 rfl rfl; MineE.kept h hk) ?_
          refine AllSteps.cons (StepE.assign _ rfl rfl fun a w' hl => rfl) ?_
          exact AllSteps.nil
        · intro f w9 hk9 hf
          obtain ⟨w10, hk10, A7, c7, h4, hm4⟩ := hf 4 rfl rfl
          obtain ⟨_, _, h5⟩ := hf 5 rfl rfl
          replace h5 : f 5 = .int .i64 0 := h5
          rw [h4] at hm4
          have HM9 := Lib.hid (Mine.on hm4 hk10)
          simp only [Exit.then, fill, dsts, List.filterMap_cons, List.filterMap_nil, List.foldl_cons, List.foldl_nil, Act.put, h4, h5, List.setIfInBounds_toArray, List.set_cons_succ, List.set_cons_zero]
          have HB9 := Lib.hid (HBR.out.trans (by rw [← HBE.out]; exact hk9))
          clear hf hk9 hm4 h4 h5 hk10
          go_wp2_with fail
          go_ret2
          obtain ⟨A8, c8, hv, hc8, hm8, hs8⟩ := HM9.out.form
          injection hv with hv1 hv2 hv3
          subst hv1
          subst hv3
          rw [HV.out]
          refine ⟨A7, c7, ?_, ?_, ?_, hm8, HB9.out⟩
          · show _ = Ending.returned (.tuple #[.slice A7 (del l ys).length c7, .int .i64 0])
            rw [HVL.out] <;> rfl
          · show Sl w9 _ 2 A7 (del l ys).length (ecs (del l ys))
            rw [HVL.out, ← HECS.out]
            exact hs8
          · show (del l ys).length ≤ c7
            rw [HVL.out]
            exact hc8
      · have heb : (ys.toList == s.toList) = false := eqS_no he
        have HN2 : Hid (has (l.take (p + 1)) s = false) := Lib.hid (by rw [HU.out, HNO.out]; exact heb)
        clear he hpa hhm
        go_wp2_with fail
        go_roundw
        case rel => exact ⟨p + 1, by omega, by go_num, HN2.out, HBR.out⟩
        case measure => simp [intOf]; omega
    · have hge : (l.length : Int) ≤ (p : Int) := by omega
      have HV : Hid (remV l s = ([], 3)) := Lib.hid (by
        have := HNO.out
        rw [List.take_of_length_le (by omega)] at this
        unfold remV
        rw [this]
        rfl)
      go_wp2_with fail
      go_ret2
      exact ResA.none HV.out HBR.out
end Go.Proofs.Ytifbbbphoponcaa.Dr

