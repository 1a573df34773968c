/-
  dir: the document's Get.
-/
import Derived.Test.YtifbbbphoponcaaDir14
import Derived.Test.YtifbbbphoponcaaRely
namespace Go.Proofs.Ytifbbbphoponcaa.Dr
open Go.RowKit Wd Wi
set_option linter.unusedVariables false
set_option linter.unusedSimpArgs false
attribute [local go_sem] str_toList str_append str_size

/-- what the document's Get answers -/
def GetD (w : World) (b : List UInt8) (e : Ending) (w' : World) : Prop :=
  ∃ k, (∀ j, j < k → runs b j) ∧ Below w.heap.size w w' ∧
    ((¬ runs b k ∧ ((checkB (getTo b k) = true ∧ putL (getTo b k) = b ∧ ∃ A c, e = .returned (.tuple #[.slice A (getTo b k).length c, .bool true]) ∧ Sl w' w'.heap.size 2 A (getTo b k).length (ecs (getTo b k)) ∧ (getTo b k).length ≤ c ∧ c ≤ maxLen) ∨
     (¬ (checkB (getTo b k) = true ∧ putL (getTo b k) = b) ∧ e = .returned (.tuple #[.slice none 0 0, .bool false])))) ∨
     (runs b k ∧ tB b (32 * k) 20 = false ∧ e = .returned (.tuple #[.slice none 0 0, .bool false])))
set_option maxRecDepth 100000 in
set_option maxHeartbeats 3200000 in
theorem rgetE_any (A : Option Addr) (l : List UInt8) (c : Nat) (w : World) (hs : Sl w w.heap.size 1 A l.length (l.map bv)) (hc : l.length ≤ c) (hcm : c ≤ maxLen) (hk : l.length ≤ 1000000) :
    Calls Try.prog 18 #[.slice A l.length c] w (GetD w l) := by
  obtain ⟨i0, hi, hz0, hz1, hz2⟩ := info_parts infoEnt
  have HS := Lib.hid hs
  have HCM := Lib.hid hcm
  clear hs hcm
  go_enter Try.func18, Try.ntmps18
  go_wp2_with fail
  go_loopw [4, 5] (fun lv av wr => ∃ (k p : Nat), p = 32 * k ∧ p ≤ l.length ∧ (∀ j, j < k → runs l j) ∧ av = .int .i64 (p : Int) ∧ wr.ownsRow w.heap.size 40 2 lv k (ecs (getTo l k)) ∧ Below w.heap.size w wr) (fun _ av _ => l.length - (intOf av).toNat)
  case atStart => exact ⟨0, 0, rfl, by omega, fun j hj => absurd hj (Nat.not_lt_zero j), rfl, World.ownsRow_nil _ _ _ _, Below.refl _ _⟩
  case round =>
    obtain ⟨k, p, hp, hpl, hr, rfl, hown, hbel⟩ := hrel
    have HP := Lib.hid hp
    have HR := Lib.hid hr
    have HO := Lib.hid hown
    have HB := Lib.hid hbel
    have hsz := hbel.size
    obtain ⟨Al, cl, rfl, hkc, hcl, hsl⟩ := Mine.form (.inr hown)
    have HSL := Lib.hid hsl
    have hkk : k ≤ 31250 := by omega
    clear hr hown hbel hsl hp
    have hp0 : (0 : Int) ≤ (p : Int) := by omega
    by_cases h1 : p + 32 ≤ l.length
    · have h1I : (p : Int) + 32 ≤ (l.length : Int) := by omega
      have hA : ∃ b off, A = some ⟨b, off, none⟩ ∧ b < w.heap.size := by
        obtain ⟨b, off, e, hb, _⟩ := HS.out.at (by omega) (by decide)
        exact ⟨b, off, e, hb⟩
      obtain ⟨b, off, hAe, hb0⟩ := hA
      have HAE := Lib.hid hAe
      have hplt : (p : Int) < (l.length : Int) := by omega
      have hcell : wr.cell? ⟨b, off + p, none⟩ = some (.int .u8 ((l.getD p 0).toNat : Int)) := by
        obtain ⟨b', off', e, hb', hcc⟩ := HS.out.at (by omega) (by decide)
        rw [hAe] at e
        injection e with e
        injection e with e1 e2
        subst e1; subst e2
        refine (Below.cell HB.out (p := ⟨b, off + p, none⟩) hb').trans (hcc p _ ?_)
        rw [bv_at l p (by omega), List.getD_eq_getElem?_getD, List.getElem?_eq_getElem (by omega)]
        rfl
      subst hAe
      clear HAE
      obtain ⟨y, hy⟩ : ∃ y, y = (l.getD p 0).toNat := ⟨_, rfl⟩
      rw [← hy] at hcell
      by_cases h2 : y = 0
      · have h2b : ((y : Int) != 0) = false := by rw [h2]; rfl
        have HSTOP : Hid (¬ runs l k) := Lib.hid fun h => absurd (by rw [← HP.out, ← hy]; exact h2) h.2
        clear hy h2
        go_wp2_with fail
        have HLG : Hid ((getTo l k).length = k) := Lib.hid (getTo_len l k)
        have HGG := Lib.hid (getTo_good l k)
        have hsl2 := HSL.out
        obtain ⟨g, hg⟩ : ∃ g, g = getTo l k := ⟨_, rfl⟩
        rw [← hg] at hsl2 HLG HGG
        obtain ⟨m, hm⟩ : ∃ m, m = g.length := ⟨_, rfl⟩
        have hmk : m = k := by rw [hm]; exact HLG.out
        subst hmk
        have HSG := Lib.hid hsl2
        have HG := Lib.hid hg
        have HM := Lib.hid hm
        have HSB := Lib.hid (HS.out.on (Nat.le_refl _) HB.out)
        have CHK : Hid (∀ w', Sl w' w'.heap.size 2 Al m (ecs g) → Calls Try.prog 13 #[.slice Al m cl] w' fun e w'' => e = .returned (.bool (checkB g)) ∧ Below w'.heap.size w' w'') := Lib.hid (fun w' hs => by
          have h := rcheck_any Al g cl w' (by rw [← HM.out]; exact hs) HGG.out (by rw [← HM.out]; omega)
          rw [← HM.out] at h
          exact h)
        clear hsl2 hg hm HLG HSL HO
        cases hch : checkB g
        · rw [hch] at CHK
          have HCH := Lib.hid hch
          clear hch
          refine wp_region_rely (by kernel_rfl) (fun d u w' => match d with
            | 50 => u = (.slice Al m cl : Value)
            | 51 => u = (.bool false : Value)
            | 52 => u = (.bool true : Value)
            | 53 => u = (.bool true : Value)
            | 54 => u = (Go.undef : Value)
            | 55 => u = (Go.undef : Value)
            | 56 => u = (Go.undef : Value)
            | 57 => u = (Go.undef : Value)
            | 58 => u = (Go.undef : Value)
            | 59 => u = (Go.undef : Value)
            | 60 => u = (.bool true : Value)
            | _ => True) 62 rfl (by decide +kernel) [60] ?_ ?_
          · refine AllSteps.cons (Step.move _ rfl rfl fun a w' hl => hl.old 4 rfl) ?_
            refine AllSteps.cons (Step.plain rfl fun a w' K hl hK => ?_) ?_
            · obtain ⟨_, _, _, h50⟩ := hl.dep 0 50 rfl rfl
              replace h50 : a.eval (.tmp 50) = _ := h50
              refine wp_call rfl Try.func13 rfl rfl #[.slice Al m cl] (by simp [h50]) ?_
              refine (CHK.out w' (HSG.out.on (Nat.le_refl _) hl.kept)).mono ?_
              rintro e w8 ⟨rfl, hb8⟩
              exact ⟨_, rfl, hK _ _ hb8 rfl⟩
            refine AllSteps.cons (Step.plain rfl fun a w' K hl hK => ?_) ?_
            · obtain ⟨_, _, _, h51⟩ := hl.dep 1 51 rfl rfl
              replace h51 : a.eval (.tmp 51) = _ := h51
              refine wp_val (.bool true) ?_ (hK _ _ (Kept.refl _) rfl)
              clear hl hK
              generalize a.eval = ρ at *
              simp [execOp, go_sem, h51]
            refine AllSteps.cons (Step.move _ rfl rfl fun a w' hl => let ⟨_, _, _, h⟩ := hl.dep 2 52 rfl rfl; h) ?_
            refine AllSteps.cons (Step.no 3 false 53 rfl rfl rfl (fun u w h => by rw [show u = (.bool true : Value) from h]; intro h'; cases h') (fun _ => rfl)) ?_
            refine AllSteps.cons (Step.no 3 false 53 rfl rfl rfl (fun u w h => by rw [show u = (.bool true : Value) from h]; intro h'; cases h') (fun _ => rfl)) ?_
            refine AllSteps.cons (Step.no 3 false 53 rfl rfl rfl (fun u w h => by rw [show u = (.bool true : Value) from h]; intro h'; cases h') (fun _ => rfl)) ?_
            refine AllSteps.cons (Step.no 3 false 53 rfl rfl rfl (fun u w h => by rw [show u = (.bool true : Value) from h]; intro h'; cases h') (fun _ => rfl)) ?_
            refine AllSteps.cons (Step.no 3 false 53 rfl rfl rfl (fun u w h => by rw [show u = (.bool true : Value) from h]; intro h'; cases h') (fun _ => rfl)) ?_
            refine AllSteps.cons (Step.no 3 false 53 rfl rfl rfl (fun u w h => by rw [show u = (.bool true : Value) from h]; intro h'; cases h') (fun _ => rfl)) ?_
            refine AllSteps.cons (Step.plain rfl fun a w' K hl hK => ?_) ?_
            · obtain ⟨_, _, _, h53⟩ := hl.dep 3 53 rfl rfl
              replace h53 : a.eval (.tmp 53) = _ := h53
              obtain ⟨_, _, _, h59⟩ := hl.dep 9 59 rfl rfl
              replace h59 : a.eval (.tmp 59) = _ := h59
              exact wp_pick rfl true h53 (hK _ _ (Kept.refl _) rfl)
            exact AllSteps.nil
          · intro f w9 hk9 hf
            obtain ⟨_, _, hres⟩ := hf 60 rfl rfl
            replace hres : f 60 = .bool true := hres
            simp only [Exit.then, fill, dsts, List.filterMap_cons, List.filterMap_nil, List.foldl_cons, List.foldl_nil, Act.put, hres, List.setIfInBounds_toArray, List.set_cons_succ, List.set_cons_zero]
            clear hf
            have HB9 := Lib.hid (HB.out.trans (Below.mono hk9 HB.out.size))
            have HSG9 := Lib.hid (HSG.out.on (Nat.le_refl _) hk9)
            clear hk9
            go_wp2_with fail
            go_ret2
            exact ⟨m, HR.out, HB9.out, .inl ⟨HSTOP.out, .inr ⟨fun h => (by rw [← HG.out, HCH.out] at h; cases h.1), rfl⟩⟩⟩
        · rw [hch] at CHK
          have HCH := Lib.hid hch
          have PUT : Hid (∀ w', Sl w' w'.heap.size 2 Al m (ecs g) → Calls Try.prog 15 #[.slice Al m cl] w' (Res w' (putL g))) := Lib.hid (fun w' hs => by
            have h := rputE_any Al g cl w' (by rw [← HM.out]; exact hs) HCH.out
            rw [← HM.out] at h
            exact h)
          clear hch
          by_cases he : putL g = l
          · have HE := Lib.hid he
            have HEB : Hid (((str (putL g)).toList != (str l).toList) = false) := Lib.hid (by rw [he]; simp)
            clear he
            refine wp_region_rely (by kernel_rfl) (fun d u w' => match d with
              | 50 => u = (.slice Al m cl : Value)
              | 51 => u = (.bool true : Value)
              | 52 => u = (.bool false : Value)
              | 53 => u = (.bool false : Value)
              | 54 => u = (.slice Al m cl : Value)
              | 55 => ∃ A4 c4, u = .slice A4 (putL g).length c4 ∧ Sl w' w'.heap.size 1 A4 (putL g).length ((putL g).map bv)
              | 56 => u = (.string (str (putL g)) : Value)
              | 57 => u = (.slice (some ⟨b, off, none⟩) l.length c : Value)
              | 58 => u = (.string (str (l)) : Value)
              | 59 => u = (.bool false : Value)
              | 60 => u = (.bool false : Value)
              | _ => True) 62 rfl (by decide +kernel) [60] ?_ ?_
            · refine AllSteps.cons (Step.move _ rfl rfl fun a w' hl => hl.old 4 rfl) ?_
              refine AllSteps.cons (Step.plain rfl fun a w' K hl hK => ?_) ?_
              · obtain ⟨_, _, _, h50⟩ := hl.dep 0 50 rfl rfl
                replace h50 : a.eval (.tmp 50) = _ := h50
                refine wp_call rfl Try.func13 rfl rfl #[.slice Al m cl] (by simp [h50]) ?_
                refine (CHK.out w' (HSG.out.on (Nat.le_refl _) hl.kept)).mono ?_
                rintro e w8 ⟨rfl, hb8⟩
                exact ⟨_, rfl, hK _ _ hb8 rfl⟩
              refine AllSteps.cons (Step.plain rfl fun a w' K hl hK => ?_) ?_
              · obtain ⟨_, _, _, h51⟩ := hl.dep 1 51 rfl rfl
                replace h51 : a.eval (.tmp 51) = _ := h51
                refine wp_val (.bool false) ?_ (hK _ _ (Kept.refl _) rfl)
                clear hl hK
                generalize a.eval = ρ at *
                simp [execOp, go_sem, h51]
              refine AllSteps.cons (Step.move _ rfl rfl fun a w' hl => let ⟨_, _, _, h⟩ := hl.dep 2 52 rfl rfl; h) ?_
              refine AllSteps.cons (Step.yes 3 false 53 rfl rfl rfl (fun _ _ h => h) fun a w' K hl hK => ?_) ?_
              · have h4 : a.eval (.tmp 4) = (.slice Al m cl : Value) := hl.old 4 rfl
                exact wp_val (a.eval (.tmp 4)) rfl (hK _ _ (Kept.refl _) h4)
              refine AllSteps.cons (Step.yes 3 false 53 rfl rfl rfl (fun _ _ h => h) fun a w' K hl hK => ?_) ?_
              · obtain ⟨_, _, _, h54⟩ := hl.dep 4 54 rfl rfl
                replace h54 : a.eval (.tmp 54) = _ := h54
                refine wp_call rfl Try.func15 rfl rfl #[.slice Al m cl] (by simp [h54]) ?_
                refine (PUT.out w' (HSG.out.on (Nat.le_refl _) hl.kept)).mono ?_
                rintro e w8 ⟨A4, c4, rfl, hs4, hc4, hm4, hb4⟩
                exact ⟨_, rfl, hK _ _ hb4 ⟨A4, c4, rfl, hs4⟩⟩
              refine AllSteps.cons (Step.yes 3 false 53 rfl rfl rfl (fun _ _ h => h) fun a w' K hl hK => ?_) ?_
              · obtain ⟨_, w1, hk1, A4, c4, h55, hs4⟩ := hl.dep 5 55 rfl rfl
                exact wp_conv rfl Try.underlying23 Try.underlying5 Try.underlying9 h55 (hs4.on (Nat.le_refl _) hk1) (hK _ _ (Kept.refl _) rfl)
              refine AllSteps.cons (Step.yes 3 false 53 rfl rfl rfl (fun _ _ h => h) fun a w' K hl hK => ?_) ?_
              · have h0 : a.eval (.tmp 0) = (.slice (some ⟨b, off, none⟩) l.length c : Value) := hl.old 0 rfl
                exact wp_val (a.eval (.tmp 0)) rfl (hK _ _ (Kept.refl _) h0)
              refine AllSteps.cons (Step.yes 3 false 53 rfl rfl rfl (fun _ _ h => h) fun a w' K hl hK => ?_) ?_
              · obtain ⟨_, _, _, h57⟩ := hl.dep 7 57 rfl rfl
                replace h57 : a.eval (.tmp 57) = _ := h57
                exact wp_conv rfl Try.underlying23 Try.underlying5 Try.underlying9 h57 (HSB.out.on (Nat.le_refl _) hl.kept) (hK _ _ (Kept.refl _) rfl)
              refine AllSteps.cons (Step.yes 3 false 53 rfl rfl rfl (fun _ _ h => h) fun a w' K hl hK => ?_) ?_
              · obtain ⟨_, _, _, h56⟩ := hl.dep 6 56 rfl rfl
                replace h56 : a.eval (.tmp 56) = _ := h56
                obtain ⟨_, _, _, h58⟩ := hl.dep 8 58 rfl rfl
                replace h58 : a.eval (.tmp 58) = _ := h58
                exact wp_neq_str rfl h56 h58 _ HEB.out (hK _ _ (Kept.refl _) rfl)
              refine AllSteps.cons (Step.plain rfl fun a w' K hl hK => ?_) ?_
              · obtain ⟨_, _, _, h53⟩ := hl.dep 3 53 rfl rfl
                replace h53 : a.eval (.tmp 53) = _ := h53
                obtain ⟨_, _, _, h59⟩ := hl.dep 9 59 rfl rfl
                replace h59 : a.eval (.tmp 59) = _ := h59
                exact wp_pick rfl false h53 (hK _ _ (Kept.refl _) h59)
              exact AllSteps.nil
            · intro f w9 hk9 hf
              obtain ⟨_, _, hres⟩ := hf 60 rfl rfl
              replace hres : f 60 = .bool false := hres
              simp only [Exit.then, fill, dsts, List.filterMap_cons, List.filterMap_nil, List.foldl_cons, List.foldl_nil, Act.put, hres, List.setIfInBounds_toArray, List.set_cons_succ, List.set_cons_zero]
              clear hf
              have HB9 := Lib.hid (HB.out.trans (Below.mono hk9 HB.out.size))
              have HSG9 := Lib.hid (HSG.out.on (Nat.le_refl _) hk9)
              clear hk9
              go_wp2_with fail
              go_ret2
              refine ⟨m, HR.out, HB9.out, .inl ⟨HSTOP.out, .inl ⟨by rw [← HG.out]; exact HCH.out, by rw [← HG.out]; exact HE.out, Al, cl, ?_, ?_, ?_, hcl⟩⟩⟩
              · rw [← HG.out, ← HM.out]
                rfl
              · rw [← HG.out, ← HM.out]
                exact HSG9.out
              · rw [← HG.out, ← HM.out]
                exact hkc
          · have HE := Lib.hid he
            have HEB : Hid (((str (putL g)).toList != (str l).toList) = true) := Lib.hid (by rw [str_toList, str_toList]; simpa using he)
            clear he
            refine wp_region_rely (by kernel_rfl) (fun d u w' => match d with
              | 50 => u = (.slice Al m cl : Value)
              | 51 => u = (.bool true : Value)
              | 52 => u = (.bool false : Value)
              | 53 => u = (.bool false : Value)
              | 54 => u = (.slice Al m cl : Value)
              | 55 => ∃ A4 c4, u = .slice A4 (putL g).length c4 ∧ Sl w' w'.heap.size 1 A4 (putL g).length ((putL g).map bv)
              | 56 => u = (.string (str (putL g)) : Value)
              | 57 => u = (.slice (some ⟨b, off, none⟩) l.length c : Value)
              | 58 => u = (.string (str (l)) : Value)
              | 59 => u = (.bool true : Value)
              | 60 => u = (.bool true : Value)
              | _ => True) 62 rfl (by decide +kernel) [60] ?_ ?_
            · refine AllSteps.cons (Step.move _ rfl rfl fun a w' hl => hl.old 4 rfl) ?_
              refine AllSteps.cons (Step.plain rfl fun a w' K hl hK => ?_) ?_
              · obtain ⟨_, _, _, h50⟩ := hl.dep 0 50 rfl rfl
                replace h50 : a.eval (.tmp 50) = _ := h50
                refine wp_call rfl Try.func13 rfl rfl #[.slice Al m cl] (by simp [h50]) ?_
                refine (CHK.out w' (HSG.out.on (Nat.le_refl _) hl.kept)).mono ?_
                rintro e w8 ⟨rfl, hb8⟩
                exact ⟨_, rfl, hK _ _ hb8 rfl⟩
              refine AllSteps.cons (Step.plain rfl fun a w' K hl hK => ?_) ?_
              · obtain ⟨_, _, _, h51⟩ := hl.dep 1 51 rfl rfl
                replace h51 : a.eval (.tmp 51) = _ := h51
                refine wp_val (.bool false) ?_ (hK _ _ (Kept.refl _) rfl)
                clear hl hK
                generalize a.eval = ρ at *
                simp [execOp, go_sem, h51]
              refine AllSteps.cons (Step.move _ rfl rfl fun a w' hl => let ⟨_, _, _, h⟩ := hl.dep 2 52 rfl rfl; h) ?_
              refine AllSteps.cons (Step.yes 3 false 53 rfl rfl rfl (fun _ _ h => h) fun a w' K hl hK => ?_) ?_
              · have h4 : a.eval (.tmp 4) = (.slice Al m cl : Value) := hl.old 4 rfl
                exact wp_val (a.eval (.tmp 4)) rfl (hK _ _ (Kept.refl _) h4)
              refine AllSteps.cons (Step.yes 3 false 53 rfl rfl rfl (fun _ _ h => h) fun a w' K hl hK => ?_) ?_
              · obtain ⟨_, _, _, h54⟩ := hl.dep 4 54 rfl rfl
                replace h54 : a.eval (.tmp 54) = _ := h54
                refine wp_call rfl Try.func15 rfl rfl #[.slice Al m cl] (by simp [h54]) ?_
                refine (PUT.out w' (HSG.out.on (Nat.le_refl _) hl.kept)).mono ?_
                rintro e w8 ⟨A4, c4, rfl, hs4, hc4, hm4, hb4⟩
                exact ⟨_, rfl, hK _ _ hb4 ⟨A4, c4, rfl, hs4⟩⟩
              refine AllSteps.cons (Step.yes 3 false 53 rfl rfl rfl (fun _ _ h => h) fun a w' K hl hK => ?_) ?_
              · obtain ⟨_, w1, hk1, A4, c4, h55, hs4⟩ := hl.dep 5 55 rfl rfl
                exact wp_conv rfl Try.underlying23 Try.underlying5 Try.underlying9 h55 (hs4.on (Nat.le_refl _) hk1) (hK _ _ (Kept.refl _) rfl)
              refine AllSteps.cons (Step.yes 3 false 53 rfl rfl rfl (fun _ _ h => h) fun a w' K hl hK => ?_) ?_
              · have h0 : a.eval (.tmp 0) = (.slice (some ⟨b, off, none⟩) l.length c : Value) := hl.old 0 rfl
                exact wp_val (a.eval (.tmp 0)) rfl (hK _ _ (Kept.refl _) h0)
              refine AllSteps.cons (Step.yes 3 false 53 rfl rfl rfl (fun _ _ h => h) fun a w' K hl hK => ?_) ?_
              · obtain ⟨_, _, _, h57⟩ := hl.dep 7 57 rfl rfl
                replace h57 : a.eval (.tmp 57) = _ := h57
                exact wp_conv rfl Try.underlying23 Try.underlying5 Try.underlying9 h57 (HSB.out.on (Nat.le_refl _) hl.kept) (hK _ _ (Kept.refl _) rfl)
              refine AllSteps.cons (Step.yes 3 false 53 rfl rfl rfl (fun _ _ h => h) fun a w' K hl hK => ?_) ?_
              · obtain ⟨_, _, _, h56⟩ := hl.dep 6 56 rfl rfl
                replace h56 : a.eval (.tmp 56) = _ := h56
                obtain ⟨_, _, _, h58⟩ := hl.dep 8 58 rfl rfl
                replace h58 : a.eval (.tmp 58) = _ := h58
                exact wp_neq_str rfl h56 h58 _ HEB.out (hK _ _ (Kept.refl _) rfl)
              refine AllSteps.cons (Step.plain rfl fun a w' K hl hK => ?_) ?_
              · obtain ⟨_, _, _, h53⟩ := hl.dep 3 53 rfl rfl
                replace h53 : a.eval (.tmp 53) = _ := h53
                obtain ⟨_, _, _, h59⟩ := hl.dep 9 59 rfl rfl
                replace h59 : a.eval (.tmp 59) = _ := h59
                exact wp_pick rfl false h53 (hK _ _ (Kept.refl _) h59)
              exact AllSteps.nil
            · intro f w9 hk9 hf
              obtain ⟨_, _, hres⟩ := hf 60 rfl rfl
              replace hres : f 60 = .bool true := hres
              simp only [Exit.then, fill, dsts, List.filterMap_cons, List.filterMap_nil, List.foldl_cons, List.foldl_nil, Act.put, hres, List.setIfInBounds_toArray, List.set_cons_succ, List.set_cons_zero]
              clear hf
              have HB9 := Lib.hid (HB.out.trans (Below.mono hk9 HB.out.size))
              have HSG9 := Lib.hid (HSG.out.on (Nat.le_refl _) hk9)
              clear hk9
              go_wp2_with fail
              go_ret2
              exact ⟨m, HR.out, HB9.out, .inl ⟨HSTOP.out, .inr ⟨fun h => HE.out (by rw [HG.out]; exact h.2), rfl⟩⟩⟩
      · have h2b : ((y : Int) != 0) = true := by rw [bne_iff_ne]; omega
        have HRK : Hid (runs l k) := Lib.hid ⟨by rw [← HP.out]; omega, by rw [← HP.out, ← hy]; exact h2⟩
        clear hy h2
        have e1 : str (tS l (p : Int).toNat (20 : Int).toNat) = (getE l k).1 := by
          unfold getE
          rw [← HP.out, Int.toNat_natCast]
          rfl
        have e2 : ((leN (seg l ((p : Int) + 1 + 20).toNat (1 : Int).toNat) : Nat) : Int) = (getE l k).2 := by
          unfold getE
          rw [← HP.out, show ((p : Int) + 1 + 20).toNat = p + 21 by omega]
          rfl
        have e3 : tB l (p : Int).toNat (20 : Int).toNat = tB l (32 * k) 20 := by
          rw [← HP.out, Int.toNat_natCast]
          rfl
        obtain ⟨x, hx⟩ : ∃ x, x = getE l k := ⟨_, rfl⟩
        obtain ⟨tb, htb⟩ : ∃ tb, tb = tB l (32 * k) 20 := ⟨_, rfl⟩
        rw [← hx] at e1 e2
        rw [← htb] at e3
        have HX := Lib.hid hx
        have HTB := Lib.hid htb
        have E1 := Lib.hid e1
        have E2 := Lib.hid e2
        have E3 := Lib.hid e3
        clear e1 e2 e3 hx htb
        go_wp2_with fail
        refine (rgtext_yes _ l c (p : Int) 20 wr (HS.out.on (Nat.le_refl _) HB.out) hc HCM.out hp0 (by decide) (by decide) (by omega)).mono ?_
        rintro e w' ⟨rfl, rfl⟩
        rw [E1.out, E3.out]
        go_wp2_with fail
        refine (rget_yes _ l c _ 1 wr (HS.out.on (Nat.le_refl _) HB.out) (Nat.le_trans hc HCM.out) (by omega) (by decide) (by decide) (by omega)).mono ?_
        rintro e w' ⟨rfl, rfl⟩
        rw [E2.out]
        cases tb
        · go_wp2_with fail
          go_ret2
          exact ⟨k, HR.out, HB.out, .inr ⟨HRK.out, HTB.out.symm, rfl⟩⟩
        · go_wp2_with (at_builtin; refine wpList_append_mine rfl (.tmp 44) (.tmp 48) _ _ rfl w.heap.size 40 i0 (.agg #[.string ByteArray.empty, .int .i64 0]) 2 24 hz1 hz2 rfl (by decide) _ _ _ rfl (Mine.alloc (.inr HO.out) _) _ 1 (ecs [x]) rfl (Gives.ent Try.underlying22 hi hz0 hz1 x) (by simp only [maxLen]; omega) (by omega) (by simp; omega) ?_; intro A5 c5 w5 hm5 hg5 hb5 hat5 hown5)
          have ho5 := hown5 (.inl (by decide))
          have HO5 := Lib.hid ho5
          have HB5 := Lib.hid ((HB.out.alloc hsz _).trans hb5)
          clear ho5 hown5 hat5 hg5 hm5 hb5
          go_wp2_with fail
          go_roundw
          case rel => exact ⟨k + 1, p + 32, by have := HP.out; omega, by omega, fun j hj => by
            by_cases hjk : j < k
            · exact HR.out j hjk
            · obtain rfl : j = k := by omega
              exact HRK.out, by go_num, by rw [getTo_succ, ecs_append, ← HX.out]; exact HO5.out, HB5.out⟩
          case measure => simp [intOf]; omega
    · have h1I : (l.length : Int) < (p : Int) + 32 := by omega
      have HSTOP : Hid (¬ runs l k) := Lib.hid fun h => by
        have := h.1
        have := HP.out
        omega
      go_wp2_with fail
      have HLG : Hid ((getTo l k).length = k) := Lib.hid (getTo_len l k)
      have HGG := Lib.hid (getTo_good l k)
      have hsl2 := HSL.out
      obtain ⟨g, hg⟩ : ∃ g, g = getTo l k := ⟨_, rfl⟩
      rw [← hg] at hsl2 HLG HGG
      obtain ⟨m, hm⟩ : ∃ m, m = g.length := ⟨_, rfl⟩
      have hmk : m = k := by rw [hm]; exact HLG.out
      subst hmk
      have HSG := Lib.hid hsl2
      have HG := Lib.hid hg
      have HM := Lib.hid hm
      have HSB := Lib.hid (HS.out.on (Nat.le_refl _) HB.out)
      have CHK : Hid (∀ w', Sl w' w'.heap.size 2 Al m (ecs g) → Calls Try.prog 13 #[.slice Al m cl] w' fun e w'' => e = .returned (.bool (checkB g)) ∧ Below w'.heap.size w' w'') := Lib.hid (fun w' hs => by
        have h := rcheck_any Al g cl w' (by rw [← HM.out]; exact hs) HGG.out (by rw [← HM.out]; omega)
        rw [← HM.out] at h
        exact h)
      clear hsl2 hg hm HLG HSL HO
      cases hch : checkB g
      · rw [hch] at CHK
        have HCH := Lib.hid hch
        clear hch
        refine wp_region_rely (by kernel_rfl) (fun d u w' => match d with
          | 50 => u = (.slice Al m cl : Value)
          | 51 => u = (.bool false : Value)
          | 52 => u = (.bool true : Value)
          | 53 => u = (.bool true : Value)
          | 54 => u = (Go.undef : Value)
          | 55 => u = (Go.undef : Value)
          | 56 => u = (Go.undef : Value)
          | 57 => u = (Go.undef : Value)
          | 58 => u = (Go.undef : Value)
          | 59 => u = (Go.undef : Value)
          | 60 => u = (.bool true : Value)
          | _ => True) 62 rfl (by decide +kernel) [60] ?_ ?_
        · refine AllSteps.cons (Step.move _ rfl rfl fun a w' hl => hl.old 4 rfl) ?_
          refine AllSteps.cons (Step.plain rfl fun a w' K hl hK => ?_) ?_
          · obtain ⟨_, _, _, h50⟩ := hl.dep 0 50 rfl rfl
            replace h50 : a.eval (.tmp 50) = _ := h50
            refine wp_call rfl Try.func13 rfl rfl #[.slice Al m cl] (by simp [h50]) ?_
            refine (CHK.out w' (HSG.out.on (Nat.le_refl _) hl.kept)).mono ?_
            rintro e w8 ⟨rfl, hb8⟩
            exact ⟨_, rfl, hK _ _ hb8 rfl⟩
          refine AllSteps.cons (Step.plain rfl fun a w' K hl hK => ?_) ?_
          · obtain ⟨_, _, _, h51⟩ := hl.dep 1 51 rfl rfl
            replace h51 : a.eval (.tmp 51) = _ := h51
            refine wp_val (.bool true) ?_ (hK _ _ (Kept.refl _) rfl)
            clear hl hK
            generalize a.eval = ρ at *
            simp [execOp, go_sem, h51]
          refine AllSteps.cons (Step.move _ rfl rfl fun a w' hl => let ⟨_, _, _, h⟩ := hl.dep 2 52 rfl rfl; h) ?_
          refine AllSteps.cons (Step.no 3 false 53 rfl rfl rfl (fun u w h => by rw [show u = (.bool true : Value) from h]; intro h'; cases h') (fun _ => rfl)) ?_
          refine AllSteps.cons (Step.no 3 false 53 rfl rfl rfl (fun u w h => by rw [show u = (.bool true : Value) from h]; intro h'; cases h') (fun _ => rfl)) ?_
          refine AllSteps.cons (Step.no 3 false 53 rfl rfl rfl (fun u w h => by rw [show u = (.bool true : Value) from h]; intro h'; cases h') (fun _ => rfl)) ?_
          refine AllSteps.cons (Step.no 3 false 53 rfl rfl rfl (fun u w h => by rw [show u = (.bool true : Value) from h]; intro h'; cases h') (fun _ => rfl)) ?_
          refine AllSteps.cons (Step.no 3 false 53 rfl rfl rfl (fun u w h => by rw [show u = (.bool true : Value) from h]; intro h'; cases h') (fun _ => rfl)) ?_
          refine AllSteps.cons (Step.no 3 false 53 rfl rfl rfl (fun u w h => by rw [show u = (.bool true : Value) from h]; intro h'; cases h') (fun _ => rfl)) ?_
          refine AllSteps.cons (Step.plain rfl fun a w' K hl hK => ?_) ?_
          · obtain ⟨_, _, _, h53⟩ := hl.dep 3 53 rfl rfl
            replace h53 : a.eval (.tmp 53) = _ := h53
            obtain ⟨_, _, _, h59⟩ := hl.dep 9 59 rfl rfl
            replace h59 : a.eval (.tmp 59) = _ := h59
            exact wp_pick rfl true h53 (hK _ _ (Kept.refl _) rfl)
          exact AllSteps.nil
        · intro f w9 hk9 hf
          obtain ⟨_, _, hres⟩ := hf 60 rfl rfl
          replace hres : f 60 = .bool true := hres
          simp only [Exit.then, fill, dsts, List.filterMap_cons, List.filterMap_nil, List.foldl_cons, List.foldl_nil, Act.put, hres, List.setIfInBounds_toArray, List.set_cons_succ, List.set_cons_zero]
          clear hf
          have HB9 := Lib.hid (HB.out.trans (Below.mono hk9 HB.out.size))
          have HSG9 := Lib.hid (HSG.out.on (Nat.le_refl _) hk9)
          clear hk9
          go_wp2_with fail
          go_ret2
          exact ⟨m, HR.out, HB9.out, .inl ⟨HSTOP.out, .inr ⟨fun h => (by rw [← HG.out, HCH.out] at h; cases h.1), rfl⟩⟩⟩
      · rw [hch] at CHK
        have HCH := Lib.hid hch
        have PUT : Hid (∀ w', Sl w' w'.heap.size 2 Al m (ecs g) → Calls Try.prog 15 #[.slice Al m cl] w' (Res w' (putL g))) := Lib.hid (fun w' hs => by
          have h := rputE_any Al g cl w' (by rw [← HM.out]; exact hs) HCH.out
          rw [← HM.out] at h
          exact h)
        clear hch
        by_cases he : putL g = l
        · have HE := Lib.hid he
          have HEB : Hid (((str (putL g)).toList != (str l).toList) = false) := Lib.hid (by rw [he]; simp)
          clear he
          refine wp_region_rely (by kernel_rfl) (fun d u w' => match d with
            | 50 => u = (.slice Al m cl : Value)
            | 51 => u = (.bool true : Value)
            | 52 => u = (.bool false : Value)
            | 53 => u = (.bool false : Value)
            | 54 => u = (.slice Al m cl : Value)
            | 55 => ∃ A4 c4, u = .slice A4 (putL g).length c4 ∧ Sl w' w'.heap.size 1 A4 (putL g).length ((putL g).map bv)
            | 56 => u = (.string (str (putL g)) : Value)
            | 57 => u = (.slice A l.length c : Value)
            | 58 => u = (.string (str (l)) : Value)
            | 59 => u = (.bool false : Value)
            | 60 => u = (.bool false : Value)
            | _ => True) 62 rfl (by decide +kernel) [60] ?_ ?_
          · refine AllSteps.cons (Step.move _ rfl rfl fun a w' hl => hl.old 4 rfl) ?_
            refine AllSteps.cons (Step.plain rfl fun a w' K hl hK => ?_) ?_
            · obtain ⟨_, _, _, h50⟩ := hl.dep 0 50 rfl rfl
              replace h50 : a.eval (.tmp 50) = _ := h50
              refine wp_call rfl Try.func13 rfl rfl #[.slice Al m cl] (by simp [h50]) ?_
              refine (CHK.out w' (HSG.out.on (Nat.le_refl _) hl.kept)).mono ?_
              rintro e w8 ⟨rfl, hb8⟩
              exact ⟨_, rfl, hK _ _ hb8 rfl⟩
            refine AllSteps.cons (Step.plain rfl fun a w' K hl hK => ?_) ?_
            · obtain ⟨_, _, _, h51⟩ := hl.dep 1 51 rfl rfl
              replace h51 : a.eval (.tmp 51) = _ := h51
              refine wp_val (.bool false) ?_ (hK _ _ (Kept.refl _) rfl)
              clear hl hK
              generalize a.eval = ρ at *
              simp [execOp, go_sem, h51]
            refine AllSteps.cons (Step.move _ rfl rfl fun a w' hl => let ⟨_, _, _, h⟩ := hl.dep 2 52 rfl rfl; h) ?_
            refine AllSteps.cons (Step.yes 3 false 53 rfl rfl rfl (fun _ _ h => h) fun a w' K hl hK => ?_) ?_
            · have h4 : a.eval (.tmp 4) = (.slice Al m cl : Value) := hl.old 4 rfl
              exact wp_val (a.eval (.tmp 4)) rfl (hK _ _ (Kept.refl _) h4)
            refine AllSteps.cons (Step.yes 3 false 53 rfl rfl rfl (fun _ _ h => h) fun a w' K hl hK => ?_) ?_
            · obtain ⟨_, _, _, h54⟩ := hl.dep 4 54 rfl rfl
              replace h54 : a.eval (.tmp 54) = _ := h54
              refine wp_call rfl Try.func15 rfl rfl #[.slice Al m cl] (by simp [h54]) ?_
              refine (PUT.out w' (HSG.out.on (Nat.le_refl _) hl.kept)).mono ?_
              rintro e w8 ⟨A4, c4, rfl, hs4, hc4, hm4, hb4⟩
              exact ⟨_, rfl, hK _ _ hb4 ⟨A4, c4, rfl, hs4⟩⟩
            refine AllSteps.cons (Step.yes 3 false 53 rfl rfl rfl (fun _ _ h => h) fun a w' K hl hK => ?_) ?_
            · obtain ⟨_, w1, hk1, A4, c4, h55, hs4⟩ := hl.dep 5 55 rfl rfl
              exact wp_conv rfl Try.underlying23 Try.underlying5 Try.underlying9 h55 (hs4.on (Nat.le_refl _) hk1) (hK _ _ (Kept.refl _) rfl)
            refine AllSteps.cons (Step.yes 3 false 53 rfl rfl rfl (fun _ _ h => h) fun a w' K hl hK => ?_) ?_
            · have h0 : a.eval (.tmp 0) = (.slice A l.length c : Value) := hl.old 0 rfl
              exact wp_val (a.eval (.tmp 0)) rfl (hK _ _ (Kept.refl _) h0)
            refine AllSteps.cons (Step.yes 3 false 53 rfl rfl rfl (fun _ _ h => h) fun a w' K hl hK => ?_) ?_
            · obtain ⟨_, _, _, h57⟩ := hl.dep 7 57 rfl rfl
              replace h57 : a.eval (.tmp 57) = _ := h57
              exact wp_conv rfl Try.underlying23 Try.underlying5 Try.underlying9 h57 (HSB.out.on (Nat.le_refl _) hl.kept) (hK _ _ (Kept.refl _) rfl)
            refine AllSteps.cons (Step.yes 3 false 53 rfl rfl rfl (fun _ _ h => h) fun a w' K hl hK => ?_) ?_
            · obtain ⟨_, _, _, h56⟩ := hl.dep 6 56 rfl rfl
              replace h56 : a.eval (.tmp 56) = _ := h56
              obtain ⟨_, _, _, h58⟩ := hl.dep 8 58 rfl rfl
              replace h58 : a.eval (.tmp 58) = _ := h58
              exact wp_neq_str rfl h56 h58 _ HEB.out (hK _ _ (Kept.refl _) rfl)
            refine AllSteps.cons (Step.plain rfl fun a w' K hl hK => ?_) ?_
            · obtain ⟨_, _, _, h53⟩ := hl.dep 3 53 rfl rfl
              replace h53 : a.eval (.tmp 53) = _ := h53
              obtain ⟨_, _, _, h59⟩ := hl.dep 9 59 rfl rfl
              replace h59 : a.eval (.tmp 59) = _ := h59
              exact wp_pick rfl false h53 (hK _ _ (Kept.refl _) h59)
            exact AllSteps.nil
          · intro f w9 hk9 hf
            obtain ⟨_, _, hres⟩ := hf 60 rfl rfl
            replace hres : f 60 = .bool false := hres
            simp only [Exit.then, fill, dsts, List.filterMap_cons, List.filterMap_nil, List.foldl_cons, List.foldl_nil, Act.put, hres, List.setIfInBounds_toArray, List.set_cons_succ, List.set_cons_zero]
            clear hf
            have HB9 := Lib.hid (HB.out.trans (Below.mono hk9 HB.out.size))
            have HSG9 := Lib.hid (HSG.out.on (Nat.le_refl _) hk9)
            clear hk9
            go_wp2_with fail
            go_ret2
            refine ⟨m, HR.out, HB9.out, .inl ⟨HSTOP.out, .inl ⟨by rw [← HG.out]; exact HCH.out, by rw [← HG.out]; exact HE.out, Al, cl, ?_, ?_, ?_, hcl⟩⟩⟩
            · rw [← HG.out, ← HM.out]
              rfl
            · rw [← HG.out, ← HM.out]
              exact HSG9.out
            · rw [← HG.out, ← HM.out]
              exact hkc
        · have HE := Lib.hid he
          have HEB : Hid (((str (putL g)).toList != (str l).toList) = true) := Lib.hid (by rw [str_toList, str_toList]; simpa using he)
          clear he
          refine wp_region_rely (by kernel_rfl) (fun d u w' => match d with
            | 50 => u = (.slice Al m cl : Value)
            | 51 => u = (.bool true : Value)
            | 52 => u = (.bool false : Value)
            | 53 => u = (.bool false : Value)
            | 54 => u = (.slice Al m cl : Value)
            | 55 => ∃ A4 c4, u = .slice A4 (putL g).length c4 ∧ Sl w' w'.heap.size 1 A4 (putL g).length ((putL g).map bv)
            | 56 => u = (.string (str (putL g)) : Value)
            | 57 => u = (.slice A l.length c : Value)
            | 58 => u = (.string (str (l)) : Value)
            | 59 => u = (.bool true : Value)
            | 60 => u = (.bool true : Value)
            | _ => True) 62 rfl (by decide +kernel) [60] ?_ ?_
          · refine AllSteps.cons (Step.move _ rfl rfl fun a w' hl => hl.old 4 rfl) ?_
            refine AllSteps.cons (Step.plain rfl fun a w' K hl hK => ?_) ?_
            · obtain ⟨_, _, _, h50⟩ := hl.dep 0 50 rfl rfl
              replace h50 : a.eval (.tmp 50) = _ := h50
              refine wp_call rfl Try.func13 rfl rfl #[.slice Al m cl] (by simp [h50]) ?_
              refine (CHK.out w' (HSG.out.on (Nat.le_refl _) hl.kept)).mono ?_
              rintro e w8 ⟨rfl, hb8⟩
              exact ⟨_, rfl, hK _ _ hb8 rfl⟩
            refine AllSteps.cons (Step.plain rfl fun a w' K hl hK => ?_) ?_
            · obtain ⟨_, _, _, h51⟩ := hl.dep 1 51 rfl rfl
              replace h51 : a.eval (.tmp 51) = _ := h51
              refine wp_val (.bool false) ?_ (hK _ _ (Kept.refl _) rfl)
              clear hl hK
              generalize a.eval = ρ at *
              simp [execOp, go_sem, h51]
            refine AllSteps.cons (Step.move _ rfl rfl fun a w' hl => let ⟨_, _, _, h⟩ := hl.dep 2 52 rfl rfl; h) ?_
            refine AllSteps.cons (Step.yes 3 false 53 rfl rfl rfl (fun _ _ h => h) fun a w' K hl hK => ?_) ?_
            · have h4 : a.eval (.tmp 4) = (.slice Al m cl : Value) := hl.old 4 rfl
              exact wp_val (a.eval (.tmp 4)) rfl (hK _ _ (Kept.refl _) h4)
            refine AllSteps.cons (Step.yes 3 false 53 rfl rfl rfl (fun _ _ h => h) fun a w' K hl hK => ?_) ?_
            · obtain ⟨_, _, _, h54⟩ := hl.dep 4 54 rfl rfl
              replace h54 : a.eval (.tmp 54) = _ := h54
              refine wp_call rfl Try.func15 rfl rfl #[.slice Al m cl] (by simp [h54]) ?_
              refine (PUT.out w' (HSG.out.on (Nat.le_refl _) hl.kept)).mono ?_
              rintro e w8 ⟨A4, c4, rfl, hs4, hc4, hm4, hb4⟩
              exact ⟨_, rfl, hK _ _ hb4 ⟨A4, c4, rfl, hs4⟩⟩
            refine AllSteps.cons (Step.yes 3 false 53 rfl rfl rfl (fun _ _ h => h) fun a w' K hl hK => ?_) ?_
            · obtain ⟨_, w1, hk1, A4, c4, h55, hs4⟩ := hl.dep 5 55 rfl rfl
              exact wp_conv rfl Try.underlying23 Try.underlying5 Try.underlying9 h55 (hs4.on (Nat.le_refl _) hk1) (hK _ _ (Kept.refl _) rfl)
            refine AllSteps.cons (Step.yes 3 false 53 rfl rfl rfl (fun _ _ h => h) fun a w' K hl hK => ?_) ?_
            · have h0 : a.eval (.tmp 0) = (.slice A l.length c : Value) := hl.old 0 rfl
              exact wp_val (a.eval (.tmp 0)) rfl (hK _ _ (Kept.refl _) h0)
            refine AllSteps.cons (Step.yes 3 false 53 rfl rfl rfl (fun _ _ h => h) fun a w' K hl hK => ?_) ?_
            · obtain ⟨_, _, _, h57⟩ := hl.dep 7 57 rfl rfl
              replace h57 : a.eval (.tmp 57) = _ := h57
              exact wp_conv rfl Try.underlying23 Try.underlying5 Try.underlying9 h57 (HSB.out.on (Nat.le_refl _) hl.kept) (hK _ _ (Kept.refl _) rfl)
            refine AllSteps.cons (Step.yes 3 false 53 rfl rfl rfl (fun _ _ h => h) fun a w' K hl hK => ?_) ?_
            · obtain ⟨_, _, _, h56⟩ := hl.dep 6 56 rfl rfl
              replace h56 : a.eval (.tmp 56) = _ := h56
              obtain ⟨_, _, _, h58⟩ := hl.dep 8 58 rfl rfl
              replace h58 : a.eval (.tmp 58) = _ := h58
              exact wp_neq_str rfl h56 h58 _ HEB.out (hK _ _ (Kept.refl _) rfl)
            refine AllSteps.cons (Step.plain rfl fun a w' K hl hK => ?_) ?_
            · obtain ⟨_, _, _, h53⟩ := hl.dep 3 53 rfl rfl
              replace h53 : a.eval (.tmp 53) = _ := h53
              obtain ⟨_, _, _, h59⟩ := hl.dep 9 59 rfl rfl
              replace h59 : a.eval (.tmp 59) = _ := h59
              exact wp_pick rfl false h53 (hK _ _ (Kept.refl _) h59)
            exact AllSteps.nil
          · intro f w9 hk9 hf
            obtain ⟨_, _, hres⟩ := hf 60 rfl rfl
            replace hres : f 60 = .bool true := hres
            simp only [Exit.then, fill, dsts, List.filterMap_cons, List.filterMap_nil, List.foldl_cons, List.foldl_nil, Act.put, hres, List.setIfInBounds_toArray, List.set_cons_succ, List.set_cons_zero]
            clear hf
            have HB9 := Lib.hid (HB.out.trans (Below.mono hk9 HB.out.size))
            have HSG9 := Lib.hid (HSG.out.on (Nat.le_refl _) hk9)
            clear hk9
            go_wp2_with fail
            go_ret2
            exact ⟨m, HR.out, HB9.out, .inl ⟨HSTOP.out, .inr ⟨fun h => HE.out (by rw [HG.out]; exact h.2), rfl⟩⟩⟩
end Go.Proofs.Ytifbbbphoponcaa.Dr
