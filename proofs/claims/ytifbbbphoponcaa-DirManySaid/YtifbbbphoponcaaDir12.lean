/-
  dir: Add and Remove.
-/
import Derived.Test.YtifbbbphoponcaaDir11
import Derived.Test.YtifbbbphoponcaaRelyE
namespace Go.Proofs.Ytifbbbphoponcaa.Dr
open Go.RowKit Wd Wi We
set_option linter.unusedVariables false
set_option linter.unusedSimpArgs false

theorem pos_lt {l : List En} (hs : Srt l) {s : ByteArray} (h : has l s = true) : pos l s < l.length := by
  rw [has_at hs s] at h
  cases he : l[pos l s]? with
  | none => rw [he] at h; cases h
  | some e => exact (List.getElem?_eq_some_iff.1 he).1
theorem sl_take {w : World} {B n p : Nat} {A : Option Addr} {l : List En} (h : Sl w B 2 A n (ecs l)) (hp : p ≤ n) : Sl w B 2 A p (ecs (l.take p)) := by
  have hn : l.length = n := by have := h.1; rw [ecs_len] at this; omega
  refine ⟨by rw [ecs_len, List.length_take]; omega, fun h0 => ?_⟩
  obtain ⟨ad, e, hb, hc⟩ := h.2 (by omega)
  refine ⟨ad, e, hb, fun j u hj => hc j u ?_⟩
  rw [← ecs_take, List.getElem?_take] at hj
  split at hj
  · exact hj
  · cases hj
theorem zeros_len (n : Nat) : (zeros n).length = n := List.length_replicate
theorem spl_zero (n : Nat) (xs : List En) (h : xs.length ≤ n) : spl (zeros n) 0 xs = xs ++ zeros (n - xs.length) := by
  unfold spl zeros
  simp
theorem spl_end (a b cs : List En) (h : b.length = cs.length) : spl (a ++ b) a.length cs = a ++ cs := by
  unfold spl
  rw [List.take_left, List.drop_of_length_le (by rw [List.length_append]; omega), List.append_nil]
theorem spl_add {l : List En} {p : Nat} (hp : p ≤ l.length) (x : En) : spl ((spl (zeros (l.length + 1)) 0 (l.take p)).set p x) (p + 1) (l.drop p) = l.take p ++ x :: l.drop p := by
  have h1 : (l.take p).length = p := by rw [List.length_take]; omega
  rw [spl_zero _ _ (by omega), h1]
  have h2 : (l.take p ++ zeros (l.length + 1 - p)).set p x = (l.take p ++ [x]) ++ zeros (l.length - p) := by
    rw [List.set_append_right _ _ (by omega), h1, Nat.sub_self, show l.length + 1 - p = (l.length - p) + 1 by omega]
    simp [zeros, List.replicate_succ]
  rw [h2]
  have h3 : (l.take p ++ [x]).length = p + 1 := by rw [List.length_append, h1]; rfl
  have h4 := spl_end (l.take p ++ [x]) (zeros (l.length - p)) (l.drop p) (by rw [zeros_len, List.length_drop])
  rw [h3] at h4
  rw [h4]
  simp
theorem spl_rem {l : List En} {p : Nat} (hp : p < l.length) : spl (spl (zeros (l.length - 1)) 0 (l.take p)) p (l.drop (p + 1)) = l.take p ++ l.drop (p + 1) := by
  have h1 : (l.take p).length = p := by rw [List.length_take]; omega
  rw [spl_zero _ _ (by omega), h1]
  have h4 := spl_end (l.take p) (zeros (l.length - 1 - p)) (l.drop (p + 1)) (by rw [zeros_len, List.length_drop]; omega)
  rwa [h1] at h4
/-- entries and an error that a call hands back -/
def ResA (w : World) (r : List En × Int) (e : Ending) (w' : World) : Prop :=
  ∃ A c, e = .returned (.tuple #[.slice A r.1.length c, .int .i64 r.2]) ∧ Sl w' w'.heap.size 2 A r.1.length (ecs r.1) ∧ r.1.length ≤ c ∧ c ≤ maxLen ∧ Below w.heap.size w w'
theorem ResA.none {w w' : World} {r : List En × Int} {z : Int} (h : r = ([], z)) (hb : Below w.heap.size w w') : ResA w r (.returned (.tuple #[.slice Option.none 0 0, .int .i64 z])) w' := by
  subst h
  exact ⟨Option.none, 0, rfl, Sl.nil Option.none, Nat.le_refl _, by simp, hb⟩
/-- the same, and what is handed back lies in new memory -/
def ResF (w : World) (r : List En × Int) (e : Ending) (w' : World) : Prop :=
  ∃ A c, e = .returned (.tuple #[.slice A r.1.length c, .int .i64 r.2]) ∧ Sl w' w'.heap.size 2 A r.1.length (ecs r.1) ∧ r.1.length ≤ c ∧ c ≤ maxLen ∧ Below w.heap.size w w' ∧ ∀ ad, A = some ad → w.heap.size ≤ ad.block
theorem ResF.none {w w' : World} {r : List En × Int} {z : Int} (h : r = ([], z)) (hb : Below w.heap.size w w') : ResF w r (.returned (.tuple #[.slice Option.none 0 0, .int .i64 z])) w' := by
  subst h
  exact ⟨Option.none, 0, rfl, Sl.nil Option.none, Nat.le_refl _, by simp, hb, fun ad h => by cases h⟩
set_option maxRecDepth 100000 in
set_option maxHeartbeats 1600000 in
theorem add_new (A : Option Addr) (l : List En) (c : Nat) (x : En) (w : World) (hs : Sl w w.heap.size 2 A l.length (ecs l)) (hc : l.length ≤ c) (hsrt : Srt l) (hk : l.length ≤ 1000) (hx : goodE x) :
    Calls Try.prog 25 #[.slice A l.length c, ev x] w (ResF w (addV l x)) := by
  obtain ⟨i0, hi, hz0, hz1, hz2⟩ := info_parts infoEnt
  have PLC := Lib.hid (fun w hs => place_any A l c x.1 w hs hsrt hk)
  have MAY := Lib.hid (fun w => may_any x hx w)
  have hkl := pos_le l x.1
  have HS := Lib.hid hs
  obtain ⟨p, hp⟩ : ∃ p, p = pos l x.1 := ⟨_, rfl⟩
  have HINS : Hid (ins l x = l.take p ++ x :: l.drop p) := Lib.hid (by rw [hp]; rfl)
  rw [← hp] at PLC hkl
  have HW0 := Lib.hid (range_new w x 40)
  have HAV : Hid (addV l x = if !mayB x then ([], 1) else if has l x.1 then ([], 6) else if 64 ≤ l.length then ([], 5) else (ins l x, 0)) := Lib.hid rfl
  obtain ⟨mb, hmb⟩ : ∃ b, b = mayB x := ⟨_, rfl⟩
  obtain ⟨hh, hhh⟩ : ∃ b, b = has l x.1 := ⟨_, rfl⟩
  obtain ⟨V, hV⟩ : ∃ V, V = addV l x := ⟨_, rfl⟩
  rw [← hmb] at MAY HAV
  rw [← hhh] at PLC HAV
  rw [← hV] at HAV ⊢
  unfold ev at *
  clear hmb hhh hp hV hs hx
  go_enter Try.func25, Try.ntmps25
  go_wp2_with fail
  refine (PLC.out _ (HS.out.on (Nat.le_refl _) ((Below.refl _ _).alloc (Nat.le_refl _) _))).mono ?_
  rintro e w1 ⟨rfl, hb1⟩
  have hr1 := range_keep HW0.out (hb1.block w.heap.size (by simp))
  have HR1 := Lib.hid hr1
  have HB1 := Lib.hid (((Below.refl w.heap.size w).alloc (Nat.le_refl _) _).trans (Below.mono hb1 (by simp)))
  have hlt1 : w.heap.size < w1.heap.size := by have := hb1.size; simp at this; omega
  clear hb1 hr1
  go_wp2_with ((with_reducible show wpList _ _ _ (⟨some 17, _, _, _, _, _⟩ :: _) _ _); refine wpList_load_ent rfl _ rfl rfl HR1.out ?_)
  refine (MAY.out _).mono ?_
  rintro e w2 ⟨rfl, hb2⟩
  have HR2 := Lib.hid (range_keep HR1.out (hb2.block w.heap.size hlt1))
  have HB2 := Lib.hid (HB1.out.trans (Below.mono hb2 HB1.out.size))
  have hlt2 : w.heap.size < w2.heap.size := Nat.lt_of_lt_of_le hlt1 hb2.size
  clear hb2 HR1
  cases mb
  · have HV : Hid (V = ([], 1)) := Lib.hid HAV.out
    clear HAV
    go_wp2_with fail
    go_ret2
    exact ResF.none HV.out HB2.out
  · cases hh
    rotate_left
    · have HV : Hid (V = ([], 6)) := Lib.hid HAV.out
      clear HAV
      go_wp2_with fail
      go_ret2
      exact ResF.none HV.out HB2.out
    · by_cases h64 : 64 ≤ l.length
      · have HV : Hid (V = ([], 5)) := Lib.hid (HAV.out.trans (if_pos h64))
        have h64I : (64 : Int) ≤ (l.length : Int) := by omega
        clear HAV
        go_wp2_with fail
        go_ret2
        exact ResF.none HV.out HB2.out
      · have HV : Hid (V = (ins l x, 0)) := Lib.hid (HAV.out.trans (if_neg h64))
        have h64I : (l.length : Int) < 64 := by omega
        obtain ⟨n1, hn1⟩ : ∃ n1, n1 = l.length + 1 := ⟨_, rfl⟩
        obtain ⟨q, hq⟩ : ∃ q, p + q = l.length := ⟨l.length - p, by omega⟩
        obtain ⟨ts, hts⟩ : ∃ ts, ts = l.take p := ⟨_, rfl⟩
        obtain ⟨xs, hxs⟩ : ∃ xs, xs = l.drop p := ⟨_, rfl⟩
        have htl : ts.length = p := by rw [hts, List.length_take]; omega
        have hxl : xs.length = q := by rw [hxs, List.length_drop]; omega
        have hl1 : (spl (zeros n1) 0 (ts.take p)).length = n1 := by rw [spl_len (by rw [zeros_len, List.length_take]; omega), zeros_len]
        obtain ⟨LX, hLX⟩ : ∃ LX, (spl (zeros n1) 0 (ts.take p)).set p x = LX := ⟨_, rfl⟩
        have HFIT : Hid (p + 1 + q ≤ LX.length) := Lib.hid (by rw [← hLX, List.length_set, hl1]; omega)
        have HNEW : Hid (spl LX (p + 1) (xs.take q) = ins l x) := Lib.hid (by
          rw [← hLX, List.take_of_length_le (by omega), List.take_of_length_le (by omega), hts, hxs, hn1, HINS.out]
          exact spl_add hkl x)
        have HVL : Hid ((ins l x).length = n1) := Lib.hid (by rw [HINS.out, ← hts, ← hxs, List.length_append, List.length_cons]; omega)
        have HTS := Lib.hid hts
        have HXS := Lib.hid hxs
        have HTL := Lib.hid htl
        have HXL := Lib.hid hxl
        have HL1 := Lib.hid hl1
        have HLX := Lib.hid hLX
        have hrw : (l.length : Int) + 1 = (n1 : Int) := by omega
        have hna : n1 ≤ l.length + 1 := by omega
        have hnb : l.length + 1 ≤ n1 := by omega
        have hqa : p + q ≤ l.length := by omega
        have hqb : l.length ≤ p + q := by omega
        clear HAV hn1 hq hts hxs htl hxl hl1 hLX
        go_wp2_with (first
          | ((with_reducible show wpList _ _ _ (⟨some 29, _, _, _, _, _⟩ :: _) _ _); refine wpList_make_ents rfl _ _ rfl n1 (by omega) rfl rfl ?_; intro w3 g hr3 hg3 hb3; clear hrw; have HBL3 := Lib.hid (HB2.out.trans (Below.mono hb3 HB2.out.size)); have hgB : w.heap.size ≤ g := Nat.le_trans HB2.out.size hg3; have HS3 := Lib.hid (HS.out.below HBL3.out); have HROW3 := Lib.hid hr3; have HR3 := Lib.hid (range_keep HR2.out (hb3.block w.heap.size hlt2)); have HS4 := Lib.hid (sl_take HS3.out (show p ≤ l.length by omega)); rw [← HTS.out] at HS4; clear hr3 hb3)
          | ((with_reducible show wpList _ _ _ (⟨some 34, _, _, _, _, _⟩ :: _) _ _); refine wpList_copy_ent rfl _ _ rfl rfl rfl HROW3.out HTL.out HS4.out p (Nat.min_eq_left (by omega)).symm (k := 0) (fun _ => by rw [Nat.zero_mul]) (by rw [zeros_len]; omega) HBL3.out hgB ?_; intro w4 hr4 hb4 hbb4; have HROW4 := Lib.hid hr4; have HBL4 := Lib.hid hb4; have HR4 := Lib.hid (range_keep HR3.out ((hbb4 _ _ (Below.refl w2.heap.size w3) hg3).block w.heap.size hlt2)); clear hr4 hb4 hbb4)
          | ((with_reducible show wpList _ _ _ (⟨some 37, _, _, _, _, _⟩ :: _) _ _); refine wpList_load_ent rfl _ rfl rfl HR4.out ?_)
          | (refine wpList_store_ent rfl _ _ rfl HROW4.out (by rw [HL1.out]; omega) rfl rfl hgB HBL4.out ?_; intro w5 hr5 hb5 hbb5; rw [HLX.out] at hr5; have HROW := Lib.hid hr5; have HBL := Lib.hid hb5; clear hr5 hb5 hbb5))
        obtain ⟨B0, hB0⟩ : ∃ B0, B0 = w.heap.size := ⟨_, rfl⟩
        have HBE := Lib.hid hB0
        have HB0 : Hid (B0 ≤ w5.heap.size) := Lib.hid (by rw [hB0]; exact HBL.out.size)
        have HGB : Hid (B0 ≤ g) := Lib.hid (by rw [hB0]; exact hgB)
        obtain ⟨A5, hA5⟩ : ∃ A5, A5 = if c = p then A else A.map (·.add (p * 2)) := ⟨_, rfl⟩
        have HAE := Lib.hid hA5
        have HSRC : Hid (Sl w5 B0 2 A5 q (ecs xs)) := Lib.hid (by
          have h := cut_sl (l := p) (d := q) (c := c) (HS.out.below HBL.out) (by omega) (by omega)
          rw [← HXS.out, List.take_of_length_le (by rw [HXL.out]; exact Nat.le_refl _), ← hA5, ← hB0] at h
          exact h)
        obtain ⟨D, hD⟩ : ∃ D : Option Addr, D = if n1 = (p + 1) then some ⟨g, 0, none⟩ else (some (⟨g, 0, none⟩ : Addr)).map (·.add ((p + 1) * 2)) := ⟨_, rfl⟩
        have HDE := Lib.hid hD
        have HD : Hid (0 < q → D = some ⟨g, (p + 1) * 2, none⟩) := Lib.hid (fun hq => by
          rw [hD, if_neg (by omega)]
          show some ((⟨g, 0, none⟩ : Addr).add ((p + 1) * 2)) = _
          rw [Addr.add_lit, Nat.zero_add])
        clear hB0 hA5 hD
        refine wp_region_e B0 HB0.out (by kernel_rfl) (fun d u w' => match d with
          | 39 => u = (.slice (some ⟨g, 0, none⟩) n1 n1 : Value)
          | 40 => u = (.int .i64 (p : Int) : Value)
          | 41 => u = (.int .i64 ((p + 1 : Nat) : Int) : Value)
          | 42 => u = (.slice D q (n1 - (p + 1)) : Value)
          | 43 => u = (.slice A l.length c : Value)
          | 44 => u = (.int .i64 (p : Int) : Value)
          | 45 => u = (.slice A5 q (c - p) : Value)
          | 46 => Row w' g (spl LX (p + 1) (xs.take q))
          | _ => True) 48 rfl (by decide +kernel) [46] 7 (fun w => Row w g (LX)) HROW.out (fun x y hk ho => Row.keep ho (hk.block g ho.lt)) ?_ ?_
        · refine AllSteps.cons (StepE.move _ rfl rfl fun a w' hl => hl.old 8 rfl) ?_
          refine AllSteps.cons (StepE.move _ rfl rfl fun a w' hl => hl.old 6 rfl) ?_
          refine AllSteps.cons (StepE.plain rfl fun a w' K hl hK => ?_) ?_
          · obtain ⟨_, _, _, h40⟩ := hl.dep 1 40 rfl rfl
            replace h40 : a.eval (.tmp 40) = _ := h40
            have hconst : ∀ x, a.eval (.const x) = x := fun _ => rfl
            refine wp_val (.int .i64 ((p + 1 : Nat) : Int)) ?_ (hK _ _ (Kept.refl _) rfl)
            clear hl hK
            generalize a.eval = ρ at *
            simp [execOp, go_sem, h40, hconst]
            rw [IntKind.wrap_i64]
            omega
          refine AllSteps.cons (StepE.plain rfl fun a w' K hl hK => ?_) ?_
          · obtain ⟨_, _, _, h39⟩ := hl.dep 0 39 rfl rfl
            replace h39 : a.eval (.tmp 39) = _ := h39
            obtain ⟨_, _, _, h41⟩ := hl.dep 2 41 rfl rfl
            replace h41 : a.eval (.tmp 41) = _ := h41
            exact wp_slice_ent rfl h39 (.inr (congrArg some h41)) (.inl ⟨rfl, by omega⟩) (by omega) (by omega) HDE.out (hK _ _ (Kept.refl _) rfl)
          refine AllSteps.cons (StepE.move _ rfl rfl fun a w' hl => hl.old 0 rfl) ?_
          refine AllSteps.cons (StepE.move _ rfl rfl fun a w' hl => hl.old 6 rfl) ?_
          refine AllSteps.cons (StepE.plain rfl fun a w' K hl hK => ?_) ?_
          · obtain ⟨_, _, _, h43⟩ := hl.dep 4 43 rfl rfl
            replace h43 : a.eval (.tmp 43) = _ := h43
            obtain ⟨_, _, _, h44⟩ := hl.dep 5 44 rfl rfl
            replace h44 : a.eval (.tmp 44) = _ := h44
            exact wp_slice_ent rfl h43 (.inr (congrArg some h44)) (.inl ⟨rfl, by omega⟩) (by omega) (by omega) HAE.out (hK _ _ (Kept.refl _) rfl)
          refine AllSteps.cons (StepE.raw rfl fun a w' K hl hK => ?_) ?_
          · obtain ⟨_, _, _, h42⟩ := hl.dep 3 42 rfl rfl
            replace h42 : a.eval (.tmp 42) = _ := h42
            obtain ⟨_, _, _, h45⟩ := hl.dep 6 45 rfl rfl
            replace h45 : a.eval (.tmp 45) = _ := h45
            refine wp_copy_ent _ _ rfl h42 h45 (hl.still (.inl rfl)) HXL.out (HSRC.out.below hl.kept) q (Nat.min_self _).symm HD.out HFIT.out (Below.refl B0 _) HGB.out (fun wz hr hb2 hbb => hK _ wz (hbb _ _ (Below.refl _ _) HGB.out) (fun d u' hd hlv hlt hsn => ?_) (.inl rfl) hr)
            obtain ⟨w8, hk8, h8⟩ := hsn
            refine ⟨wz, Kept.refl _, ?_⟩
            by_cases h15 : d = 46
            · subst h15; exact absurd rfl hd
            clear hl hK hlv hlt hd
            dsimp only at h8 ⊢
            split at h8 <;> first | exact h8 | exact absurd rfl h15 | (split <;> first | trivial | (exfalso; simp_all))
          exact AllSteps.nil
        · intro f w9 hk9 hf
          obtain ⟨w10, hk10, hrow9⟩ := hf 46 rfl rfl
          have hrow : Row w9 g (ins l x) := by rw [← HNEW.out]; exact Row.keep hrow9 (hk10.block g hrow9.lt)
          have HRN := Lib.hid hrow.sl
          have HB9 := Lib.hid (HBL.out.trans (by rw [← HBE.out]; exact hk9))
          simp only [Exit.then, fill, dsts, List.filterMap_cons, List.filterMap_nil, List.foldl_cons, List.foldl_nil, Act.put, List.setIfInBounds_toArray, List.set_cons_succ, List.set_cons_zero]
          clear hf hk9 hrow9 hrow hk10
          go_wp2_with fail
          go_ret2
          rw [HV.out]
          refine ⟨some ⟨g, 0, none⟩, n1, ?_, HRN.out, ?_, by simp only [maxLen]; omega, HB9.out, fun ad h => by injection h with h; subst h; exact hgB⟩
          · show _ = Ending.returned (.tuple #[.slice (some ⟨g, 0, none⟩) (ins l x).length n1, .int .i64 0])
            rw [HVL.out] <;> rfl
          · show (ins l x).length ≤ n1
            rw [HVL.out]
            exact Nat.le_refl _
theorem add_any (A : Option Addr) (l : List En) (c : Nat) (x : En) (w : World) (hs : Sl w w.heap.size 2 A l.length (ecs l)) (hc : l.length ≤ c) (hsrt : Srt l) (hk : l.length ≤ 1000) (hx : goodE x) :
    Calls Try.prog 25 #[.slice A l.length c, ev x] w (ResA w (addV l x)) := (add_new A l c x w hs hc hsrt hk hx).mono fun e w' ⟨A, c, h1, h2, h3, h4, h5, _⟩ => ⟨A, c, h1, h2, h3, h4, h5⟩
set_option maxRecDepth 100000 in
set_option maxHeartbeats 1600000 in
theorem remove_any (A : Option Addr) (l : List En) (c : Nat) (s : ByteArray) (w : World) (hs : Sl w w.heap.size 2 A l.length (ecs l)) (hc : l.length ≤ c) (hsrt : Srt l) (hk : l.length ≤ 1000) :
    Calls Try.prog 27 #[.slice A l.length c, .string s] w (ResA w (remV l s)) := by
  obtain ⟨i0, hi, hz0, hz1, hz2⟩ := info_parts infoEnt
  have PLC := Lib.hid (fun w hs => place_any A l c s w hs hsrt hk)
  have hlt := @pos_lt l hsrt s
  have HS := Lib.hid hs
  obtain ⟨p, hp⟩ : ∃ p, p = pos l s := ⟨_, rfl⟩
  have HDEL : Hid (del l s = l.take p ++ l.drop (p + 1)) := Lib.hid (by rw [hp]; rfl)
  rw [← hp] at PLC hlt
  have HAV : Hid (remV l s = if has l s then (del l s, 0) else ([], 3)) := Lib.hid rfl
  obtain ⟨hh, hhh⟩ : ∃ b, b = has l s := ⟨_, rfl⟩
  obtain ⟨V, hV⟩ : ∃ V, V = remV l s := ⟨_, rfl⟩
  rw [← hhh] at PLC HAV hlt
  rw [← hV] at HAV ⊢
  clear hhh hp hV hs
  cases hh
  · have HV : Hid (V = ([], 3)) := Lib.hid HAV.out
    clear HAV hlt
    go_enter Try.func27, Try.ntmps27
    go_wp2_with fail
    refine (PLC.out _ HS.out).mono ?_
    rintro e w2 ⟨rfl, hb2⟩
    go_wp2_with fail
    go_ret2
    exact ResA.none HV.out hb2
  · have HV : Hid (V = (del l s, 0)) := Lib.hid HAV.out
    have hpl : p < l.length := hlt rfl
    obtain ⟨n1, hn1⟩ : ∃ n1, n1 = l.length - 1 := ⟨_, rfl⟩
    obtain ⟨q, hq⟩ : ∃ q, p + q = n1 := ⟨n1 - p, by omega⟩
    obtain ⟨ts, hts⟩ : ∃ ts, ts = l.take p := ⟨_, rfl⟩
    obtain ⟨xs, hxs⟩ : ∃ xs, xs = l.drop (p + 1) := ⟨_, rfl⟩
    have htl : ts.length = p := by rw [hts, List.length_take]; omega
    have hxl : xs.length = q := by rw [hxs, List.length_drop]; omega
    obtain ⟨LX, hLX⟩ : ∃ LX, spl (zeros n1) 0 (ts.take p) = LX := ⟨_, rfl⟩
    have HFIT : Hid (p + q ≤ LX.length) := Lib.hid (by rw [← hLX, spl_len (by rw [zeros_len, List.length_take]; omega), zeros_len]; omega)
    have HNEW : Hid (spl LX p (xs.take q) = del l s) := Lib.hid (by
      rw [← hLX, List.take_of_length_le (by omega), List.take_of_length_le (by omega), hts, hxs, hn1, HDEL.out]
      exact spl_rem hpl)
    have HVL : Hid ((del l s).length = n1) := Lib.hid (by rw [HDEL.out, ← hts, ← hxs, List.length_append]; omega)
    have HTS := Lib.hid hts
    have HXS := Lib.hid hxs
    have HTL := Lib.hid htl
    have HXL := Lib.hid hxl
    have HLX := Lib.hid hLX
    have hrw : (l.length : Int) - 1 = (n1 : Int) := by omega
    have hna : n1 + 1 ≤ l.length := by omega
    have hnb : l.length ≤ n1 + 1 := by omega
    have hqa : p + q ≤ n1 := by omega
    have hqb : n1 ≤ p + q := by omega
    clear HAV hn1 hq hts hxs htl hxl hLX hlt
    go_enter Try.func27, Try.ntmps27
    go_wp2_with fail
    refine (PLC.out _ HS.out).mono ?_
    rintro e w2 ⟨rfl, hb2⟩
    have HB2 := Lib.hid hb2
    clear hb2
    go_wp2_with (first
      | ((with_reducible show wpList _ _ _ (⟨some 20, _, _, _, _, _⟩ :: _) _ _); refine wpList_make_ents rfl _ _ rfl n1 (by omega) rfl rfl ?_; intro w3 g hr3 hg3 hb3; clear hrw; have HBL3 := Lib.hid (HB2.out.trans (Below.mono hb3 HB2.out.size)); have hgB : w.heap.size ≤ g := Nat.le_trans HB2.out.size hg3; have HS3 := Lib.hid (HS.out.below HBL3.out); have HROW3 := Lib.hid hr3; have HS4 := Lib.hid (sl_take HS3.out (show p ≤ l.length by omega)); rw [← HTS.out] at HS4; clear hr3 hb3)
      | ((with_reducible show wpList _ _ _ (⟨some 25, _, _, _, _, _⟩ :: _) _ _); refine wpList_copy_ent rfl _ _ rfl rfl rfl HROW3.out HTL.out HS4.out p (Nat.min_eq_left (by omega)).symm (k := 0) (fun _ => by rw [Nat.zero_mul]) (by rw [zeros_len]; omega) HBL3.out hgB ?_; intro w4 hr4 hb4 hbb4; have HROW4 := Lib.hid hr4; have HBL4 := Lib.hid hb4; clear hr4 hb4 hbb4))
    have HROW := Lib.hid (HLX.out ▸ HROW4.out)
    have HBL := Lib.hid HBL4.out
    obtain ⟨B0, hB0⟩ : ∃ B0, B0 = w.heap.size := ⟨_, rfl⟩
    have HBE := Lib.hid hB0
    have HB0 : Hid (B0 ≤ w4.heap.size) := Lib.hid (by rw [hB0]; exact HBL.out.size)
    have HGB : Hid (B0 ≤ g) := Lib.hid (by rw [hB0]; exact hgB)
    obtain ⟨A5, hA5⟩ : ∃ A5, A5 = if c = (p + 1) then A else A.map (·.add ((p + 1) * 2)) := ⟨_, rfl⟩
    have HAE := Lib.hid hA5
    have HSRC : Hid (Sl w4 B0 2 A5 q (ecs xs)) := Lib.hid (by
      have h := cut_sl (l := (p + 1)) (d := q) (c := c) (HS.out.below HBL.out) (by omega) (by omega)
      rw [← HXS.out, List.take_of_length_le (by rw [HXL.out]; exact Nat.le_refl _), ← hA5, ← hB0] at h
      exact h)
    obtain ⟨D, hD⟩ : ∃ D : Option Addr, D = if n1 = p then some ⟨g, 0, none⟩ else (some (⟨g, 0, none⟩ : Addr)).map (·.add (p * 2)) := ⟨_, rfl⟩
    have HDE := Lib.hid hD
    have HD : Hid (0 < q → D = some ⟨g, p * 2, none⟩) := Lib.hid (fun hq => by
      rw [hD, if_neg (by omega)]
      show some ((⟨g, 0, none⟩ : Addr).add (p * 2)) = _
      rw [Addr.add_lit, Nat.zero_add])
    clear hB0 hA5 hD
    refine wp_region_e B0 HB0.out (by kernel_rfl) (fun d u w' => match d with
      | 26 => u = (.slice (some ⟨g, 0, none⟩) n1 n1 : Value)
      | 27 => u = (.int .i64 (p : Int) : Value)
      | 28 => u = (.slice D q (n1 - p) : Value)
      | 29 => u = (.slice A l.length c : Value)
      | 30 => u = (.int .i64 (p : Int) : Value)
      | 31 => u = (.int .i64 ((p + 1 : Nat) : Int) : Value)
      | 32 => u = (.slice A5 q (c - (p + 1)) : Value)
      | 33 => Row w' g (spl LX p (xs.take q))
      | _ => True) 35 rfl (by decide +kernel) [33] 7 (fun w => Row w g (LX)) HROW.out (fun x y hk ho => Row.keep ho (hk.block g ho.lt)) ?_ ?_
    · refine AllSteps.cons (StepE.move _ rfl rfl fun a w' hl => hl.old 8 rfl) ?_
      refine AllSteps.cons (StepE.move _ rfl rfl fun a w' hl => hl.old 6 rfl) ?_
      refine AllSteps.cons (StepE.plain rfl fun a w' K hl hK => ?_) ?_
      · obtain ⟨_, _, _, h26⟩ := hl.dep 0 26 rfl rfl
        replace h26 : a.eval (.tmp 26) = _ := h26
        obtain ⟨_, _, _, h27⟩ := hl.dep 1 27 rfl rfl
        replace h27 : a.eval (.tmp 27) = _ := h27
        exact wp_slice_ent rfl h26 (.inr (congrArg some h27)) (.inl ⟨rfl, by omega⟩) (by omega) (by omega) HDE.out (hK _ _ (Kept.refl _) rfl)
      refine AllSteps.cons (StepE.move _ rfl rfl fun a w' hl => hl.old 0 rfl) ?_
      refine AllSteps.cons (StepE.move _ rfl rfl fun a w' hl => hl.old 6 rfl) ?_
      refine AllSteps.cons (StepE.plain rfl fun a w' K hl hK => ?_) ?_
      · obtain ⟨_, _, _, h30⟩ := hl.dep 4 30 rfl rfl
        replace h30 : a.eval (.tmp 30) = _ := h30
        have hconst : ∀ x, a.eval (.const x) = x := fun _ => rfl
        refine wp_val (.int .i64 ((p + 1 : Nat) : Int)) ?_ (hK _ _ (Kept.refl _) rfl)
        clear hl hK
        generalize a.eval = ρ at *
        simp [execOp, go_sem, h30, hconst]
        rw [IntKind.wrap_i64]
        omega
      refine AllSteps.cons (StepE.plain rfl fun a w' K hl hK => ?_) ?_
      · obtain ⟨_, _, _, h29⟩ := hl.dep 3 29 rfl rfl
        replace h29 : a.eval (.tmp 29) = _ := h29
        obtain ⟨_, _, _, h31⟩ := hl.dep 5 31 rfl rfl
        replace h31 : a.eval (.tmp 31) = _ := h31
        exact wp_slice_ent rfl h29 (.inr (congrArg some h31)) (.inl ⟨rfl, by omega⟩) (by omega) (by omega) HAE.out (hK _ _ (Kept.refl _) rfl)
      refine AllSteps.cons (StepE.raw rfl fun a w' K hl hK => ?_) ?_
      · obtain ⟨_, _, _, h28⟩ := hl.dep 2 28 rfl rfl
        replace h28 : a.eval (.tmp 28) = _ := h28
        obtain ⟨_, _, _, h32⟩ := hl.dep 6 32 rfl rfl
        replace h32 : a.eval (.tmp 32) = _ := h32
        refine wp_copy_ent _ _ rfl h28 h32 (hl.still (.inl rfl)) HXL.out (HSRC.out.below hl.kept) q (Nat.min_self _).symm HD.out HFIT.out (Below.refl B0 _) HGB.out (fun wz hr hb2 hbb => hK _ wz (hbb _ _ (Below.refl _ _) HGB.out) (fun d u' hd hlv hlt hsn => ?_) (.inl rfl) hr)
        obtain ⟨w8, hk8, h8⟩ := hsn
        refine ⟨wz, Kept.refl _, ?_⟩
        by_cases h15 : d = 33
        · subst h15; exact absurd rfl hd
        clear hl hK hlv hlt hd
        dsimp only at h8 ⊢
        split at h8 <;> first | exact h8 | exact absurd rfl h15 | (split <;> first | trivial | (exfalso; simp_all))
      exact AllSteps.nil
    · intro f w9 hk9 hf
      obtain ⟨w10, hk10, hrow9⟩ := hf 33 rfl rfl
      have hrow : Row w9 g (del l s) := by rw [← HNEW.out]; exact Row.keep hrow9 (hk10.block g hrow9.lt)
      have HRN := Lib.hid hrow.sl
      have HB9 := Lib.hid (HBL.out.trans (by rw [← HBE.out]; exact hk9))
      simp only [Exit.then, fill, dsts, List.filterMap_cons, List.filterMap_nil, List.foldl_cons, List.foldl_nil, Act.put, List.setIfInBounds_toArray, List.set_cons_succ, List.set_cons_zero]
      clear hf hk9 hrow9 hrow hk10
      go_wp2_with fail
      go_ret2
      rw [HV.out]
      refine ⟨some ⟨g, 0, none⟩, n1, ?_, HRN.out, ?_, by simp only [maxLen]; omega, HB9.out⟩
      · show _ = Ending.returned (.tuple #[.slice (some ⟨g, 0, none⟩) (del l s).length n1, .int .i64 0])
        rw [HVL.out] <;> rfl
      · show (del l s).length ≤ n1
        rw [HVL.out]
        exact Nat.le_refl _
end Go.Proofs.Ytifbbbphoponcaa.Dr
