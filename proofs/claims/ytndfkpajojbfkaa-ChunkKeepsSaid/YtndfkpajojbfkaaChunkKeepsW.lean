/-
  'ChunkKeeps' walked: a block that is filled keeps what was there.
-/
import Derived.Test.YtndfkpajojbfkaaChunk5
import Derived.Test.YtndfkpajojbfkaaRely
import Derived.Test.YtndfkpajojbfkaaPlace
import Derived.Deep.QuietTactic
import Derived.BigQuiet
namespace Go.Proofs.Ytndfkpajojbfkaa.Ck
open Go.RowKit Wd Is Sp Fl Ga By Pl
set_option linter.unusedVariables false

def BS (L : List UInt8) (u : Value) (w : World) : Prop := ∃ A c, u = .slice A L.length c ∧ Sl w w.heap.size 1 A L.length (L.map bv)
def FT (R : List UInt8) (u : Value) (w : World) : Prop := ∃ g, u = .tuple #[.slice (some ⟨g, 0, none⟩) 128 128, .bool true] ∧ Sl w w.heap.size 1 (some ⟨g, 0, none⟩) 128 (R.map bv)
def FS (R : List UInt8) (u : Value) (w : World) : Prop := ∃ g, u = .slice (some ⟨g, 0, none⟩) 128 128 ∧ Sl w w.heap.size 1 (some ⟨g, 0, none⟩) 128 (R.map bv)
theorem FT.kept {R : List UInt8} {u : Value} {w w' : World} (h : FT R u w) (hk : Kept w w') : FT R u w' := by obtain ⟨g, e, hs⟩ := h; exact ⟨g, e, hs.on (Nat.le_refl _) hk⟩
theorem FS.kept {R : List UInt8} {u : Value} {w w' : World} (h : FS R u w) (hk : Kept w w') : FS R u w' := by obtain ⟨g, e, hs⟩ := h; exact ⟨g, e, hs.on (Nat.le_refl _) hk⟩
theorem fill_get (old dat : List UInt8) (P s a k : Nat) (hk : k < 128) : (fillL old dat P s a)[k]? = some (fillB old dat P s a k) := by
  unfold fillL cur
  rw [List.getElem?_map, List.getElem?_range hk]
  simp [hk]

set_option maxRecDepth 100000 in
set_option maxHeartbeats 6400000 in
theorem keeps_walk (Ao : Option Addr) (old : List UInt8) (co : Nat) (s a : Int) (Ad : Option Addr) (dat : List UInt8) (cd : Nat) (w : World)
    (ho : Sl w w.heap.size 1 Ao old.length (old.map bv)) (hco : old.length ≤ co) (hod : old.length ≤ 140737488355328)
    (hs1 : -9223372036854775808 ≤ s) (hs2 : s ≤ 9223372036854775807) (ha1 : -9223372036854775808 ≤ a) (ha2 : a ≤ 9223372036854775807)
    (hd : Sl w w.heap.size 1 Ad dat.length (dat.map bv)) (hcd : dat.length ≤ cd) (hdd : dat.length ≤ 140737488355328) :
    Calls Try.prog 7 #[.slice Ao old.length co, .int .i64 s, .int .i64 a, .slice Ad dat.length cd] w fun e w' => e = .returned (.bool true) ∧ Below w.heap.size w w' := by
  have HO0 := Lib.hid ho
  have HD0 := Lib.hid hd
  clear ho hd
  have P1 := Lib.hid (fun w => place_any s 500 w (by omega) (by omega) hs1 hs2)
  obtain ⟨p0, p1⟩ := place_bd s 500 (by omega)
  generalize placeZ s 500 = S at *
  obtain ⟨S, rfl⟩ := Int.eq_ofNat_of_zero_le p0
  have P2 := Lib.hid (fun w => place_any a 500 w (by omega) (by omega) ha1 ha2)
  obtain ⟨p2, p3⟩ := place_bd a 500 (by omega)
  generalize placeZ a 500 = A at *
  obtain ⟨A, rfl⟩ := Int.eq_ofNat_of_zero_le p2
  clear hs1 hs2 ha1 ha2
  have hov : (over old (List.replicate 128 0)).length = 128 := by rw [over_len]; simp
  obtain ⟨lo, hlo⟩ : ∃ lo, lo = over old (List.replicate 128 0) := ⟨_, rfl⟩
  rw [← hlo] at hov
  have HLE := Lib.hid hlo
  have HLO := Lib.hid hov
  clear hlo hov
  by_cases hin : 1 ≤ dat.length ∧ dat.length ≤ 300
  · obtain ⟨hd1, hd3⟩ := hin
    have hd1I : (1 : Int) ≤ (dat.length : Int) := by omega
    have hd3I : (dat.length : Int) ≤ 300 := by omega
    have hmay : May (S : Int) (A : Int) (dat.length : Int) := by unfold May; omega
    have T1 := Lib.hid (fun w => touched_yes hmay w)
    unfold TR at T1
    have hc33 := cnt_le A dat.length (by omega)
    obtain ⟨f, hf⟩ : ∃ f, f = A / 128 := ⟨_, rfl⟩
    have hcv : cnt A dat.length = (A + dat.length - 1) / 128 - A / 128 + 1 := by unfold cnt; rw [if_neg (by omega)]
    obtain ⟨m, hm⟩ : ∃ m, m = cnt A dat.length := ⟨_, rfl⟩
    have hL : touched A dat.length = run f m := by unfold touched; rw [hm, hf]
    rw [hL, run_len] at T1
    have hm1 : 1 ≤ m := by omega
    have hm33 : m ≤ 33 := by omega
    have hf4 : f ≤ 3 := by omega
    have hmb : ((m : Int) == 0) = false := by rw [beq_eq_false_iff_ne]; omega
    have HIN : Hid (∀ i, i < m → hasB [strP (A : Int) (dat.length : Int)] ((f + i : Nat) : Int) = true) := Lib.hid fun i hi => by
      rw [has_touched A dat.length _ (by omega), hL]
      exact decide_eq_true ((mem_run f m _).2 (by omega))
    have HMAY := Lib.hid hmay
    clear hmay hL hcv hc33 hm hf
    go_enter Try.func7, Try.ntmps7
    go_wp2_with (first
      | (refine wpList_make_bytes rfl _ _ rfl 128 (by decide) rfl rfl ?_; intro w2 hmk hmb2 hmlt)
      | (refine wpList_copy_bytes rfl _ _ rfl (M := List.replicate 128 0) (l := old) (by simp) rfl rfl hmk (HO0.out.on (Nat.le_refl _) hmb2) ?_; intro w1 v1 hcp hon))
    have HBA := Lib.hid (hon.below hmb2 (Nat.le_refl _))
    rw [← HLE.out] at hcp
    have HOW := Lib.hid hcp
    have hlt0 : w.heap.size < w1.heap.size := Nat.lt_of_lt_of_le hmlt hon.size
    clear hcp hon hmk hmb2
    obtain ⟨go, hgo⟩ : ∃ go, go = w.heap.size := ⟨_, rfl⟩
    rw [← hgo] at HOW ⊢ hlt0
    have HGO := Lib.hid hgo
    clear hgo
    refine (P1.out _).mono ?_
    rintro e w' ⟨rfl, rfl⟩
    go_wp2_with fail
    refine (P2.out _).mono ?_
    rintro e w' ⟨rfl, rfl⟩
    go_wp2_with fail
    refine (T1.out _).mono ?_
    rintro e w3 ⟨A1, c1, rfl, hs3, hc3, hb3⟩
    have HB3 := Lib.hid (HBA.out.trans (hb3.mono HBA.out.size))
    have HS3 := Lib.hid hs3
    have HO3 := Lib.hid ((Sl.own HOW.out).on (Nat.le_refl _) hb3)
    have HD3 := Lib.hid (HD0.out.on (Nat.le_refl _) HB3.out)
    obtain ⟨bl, offl, rfl, hbl, hcl⟩ := hs3.at (by omega) (by decide)
    have HCL := Lib.hid hcl
    have HBL := Lib.hid hbl
    clear hs3 hb3 hcl hbl hlt0
    go_wp2_with fail
    go_loopw [14] (fun i wr => ∃ j : Nat, j ≤ m ∧ i = .int .i64 (j : Int) ∧ Below w3.heap.size w3 wr) (fun i _ => m - (intOf i).toNat)
    case atStart => exact ⟨0, by omega, rfl, Below.refl _ _⟩
    case round =>
      obtain ⟨i, hi, rfl, hbel⟩ := hrel
      have HBR := Lib.hid hbel
      clear hbel
      by_cases hlt : i < m
      · have hltI : (i : Int) < (m : Int) := by omega
        have hi0 : (0 : Int) ≤ (i : Int) := by omega
        obtain ⟨X, hX⟩ : ∃ X : Int, X = ((f + i : Nat) : Int) := ⟨_, rfl⟩
        obtain ⟨P, hP⟩ : ∃ P, P = (f + i) * 128 := ⟨_, rfl⟩
        have hXP : X * 128 = (P : Int) := by omega
        have hP3 : P ≤ 4608 := by omega
        have hX0 : 0 ≤ X := by omega
        have hX9 : X ≤ 36 := by omega
        have hXs : hasB [strP (A : Int) (dat.length : Int)] X = true := by rw [hX]; exact HIN.out i hlt
        have HXS := Lib.hid hXs
        obtain ⟨RR1, hR1⟩ : ∃ R, R = fillL lo dat P S A := ⟨_, rfl⟩
        obtain ⟨RR2, hR2⟩ : ∃ R, R = fillL [] dat P S A := ⟨_, rfl⟩
        have HCX : Hid (∀ w', Below wr.heap.size wr w' → w'.cell? ⟨bl, offl + i, none⟩ = some (.int .i64 X)) := Lib.hid fun w' hk =>
          ((Below.cell hk (p := ⟨bl, offl + i, none⟩) (Nat.lt_of_lt_of_le HBL.out HBR.out.size)).trans (Below.cell HBR.out (p := ⟨bl, offl + i, none⟩) HBL.out)).trans (HCL.out i _ (by rw [List.getElem?_map, run_get _ _ _ hlt, hX]; rfl))
        have BO : Hid (∀ w', Below wr.heap.size wr w' → Calls Try.prog 18 #[.slice (some ⟨go, 0, none⟩) 128 128] w' (ResM w' lo)) := Lib.hid fun w' hk => by
          have h1 : Sl w' w'.heap.size 1 (some ⟨go, 0, none⟩) 128 (lo.map bv) := (HO3.out.on (Nat.le_refl _) HBR.out).on (Nat.le_refl _) hk
          rw [← HLO.out] at h1
          have h2 := bytes_any (some ⟨go, 0, none⟩) lo 128 w' h1 (by rw [HLO.out]; exact Nat.le_refl _) (by rw [HLO.out]; omega)
          rwa [HLO.out] at h2
        have BD : Hid (∀ w', Below wr.heap.size wr w' → Calls Try.prog 18 #[.slice Ad dat.length cd] w' (ResM w' dat)) := Lib.hid fun w' hk =>
          bytes_any Ad dat cd w' ((HD3.out.on (Nat.le_refl _) HBR.out).on (Nat.le_refl _) hk) hcd hdd
        have eP : (X * 128).toNat = P := by omega
        have FY : Hid (∀ A3 A7 c3 c7 w', Sl w' w'.heap.size 1 A3 lo.length (lo.map bv) → Sl w' w'.heap.size 1 A7 dat.length (dat.map bv) →
            Calls Try.prog 19 #[.slice A3 lo.length c3, .int .i64 X, .int .i64 (S : Int), .int .i64 (A : Int), .slice A7 dat.length c7] w' (FillR w' RR1)) := Lib.hid fun A3 A7 c3 c7 w' h1 h2 => by
          have h := fill_yes A3 A7 lo dat c3 c7 X (S : Int) (A : Int) w' h1 h2 HMAY.out (.inr HLO.out) HXS.out
          rw [eP, Int.toNat_natCast, Int.toNat_natCast, ← hR1] at h
          exact h
        have FN : Hid (∀ A7 c7 w', Sl w' w'.heap.size 1 A7 dat.length (dat.map bv) →
            Calls Try.prog 19 #[.slice none 0 0, .int .i64 X, .int .i64 (S : Int), .int .i64 (A : Int), .slice A7 dat.length c7] w' (FillR w' RR2)) := Lib.hid fun A7 c7 w' h2 => by
          have h := fill_yes none A7 [] dat 0 c7 X (S : Int) (A : Int) w' (Sl.nil _) h2 HMAY.out (.inl rfl) HXS.out
          rw [eP, Int.toNat_natCast, Int.toNat_natCast, ← hR2] at h
          exact h
        have HR1 := Lib.hid hR1
        have HR2 := Lib.hid hR2
        have HP := Lib.hid hP
        clear hX hXs eP hR1 hR2 hP
        go_wp2_with fail
        · refine wp_region_rely (by kernel_rfl) (fun d u w' => match d with
            | 15 => FS RR1 u w'
            | 16 => u = (.bool true : Value)
            | 61 => FT RR1 u w'
            | 62 => u = (.slice (some ⟨go, 0, none⟩) 128 128 : Value)
            | 63 => BS lo u w'
            | 64 => u = (.slice (some ⟨bl, offl, none⟩) m c1 : Value)
            | 65 => u = (.int .i64 (i : Int) : Value)
            | 66 => u = (.pointer (some ⟨bl, offl + i, none⟩) : Value)
            | 67 => u = (.int .i64 X : Value)
            | 68 => u = (.int .i64 (S : Int) : Value)
            | 69 => u = (.int .i64 (A : Int) : Value)
            | 70 => u = (.slice Ad dat.length cd : Value)
            | 71 => BS dat u w'
            | 72 => FT RR1 u w'
            | 73 => FS RR1 u w'
            | 74 => u = (.bool true : Value)
            | _ => True) 159 rfl (by decide +kernel) [15, 16] ?_ ?_
          · refine AllSteps.cons (Step.move _ rfl rfl fun a w' hl => hl.old 9 rfl) ?_
            refine AllSteps.cons (Step.plain rfl fun a w' K hl hK => ?_) ?_
            · obtain ⟨_, _, _, h62⟩ := hl.dep 0 62 rfl rfl
              replace h62 : a.eval (.tmp 62) = _ := h62
              refine wp_call rfl Try.func18 rfl rfl #[.slice (some ⟨go, 0, none⟩) 128 128] (by simp [h62]) ?_
              refine (BO.out w' hl.kept).mono ?_
              rintro e w7 ⟨A7, c7, rfl, hm7, hb7⟩
              obtain ⟨_, _, hv8, _, _, hs8⟩ := hm7.form
              injection hv8 with e1 _ e2
              subst e1; subst e2
              exact ⟨_, rfl, hK _ _ hb7 ⟨A7, c7, rfl, hs8⟩⟩
            refine AllSteps.cons (Step.move _ rfl rfl fun a w' hl => hl.old 12 rfl) ?_
            refine AllSteps.cons (Step.move _ rfl rfl fun a w' hl => hl.old 14 rfl) ?_
            refine AllSteps.cons (Step.plain rfl fun a w' K hl hK => ?_) ?_
            · obtain ⟨_, _, _, h64⟩ := hl.dep 2 64 rfl rfl
              replace h64 : a.eval (.tmp 64) = _ := h64
              obtain ⟨_, _, _, h65⟩ := hl.dep 3 65 rfl rfl
              replace h65 : a.eval (.tmp 65) = _ := h65
              refine wp_val (.pointer (some ⟨bl, offl + i, none⟩)) ?_ (hK _ _ (Kept.refl _) rfl)
              clear hl hK
              generalize a.eval = ρ at *
              simp [execOp, go_sem, h64, h65]
              try omega
            refine AllSteps.cons (Step.plain rfl fun a w' K hl hK => ?_) ?_
            · obtain ⟨_, _, _, h66⟩ := hl.dep 4 66 rfl rfl
              replace h66 : a.eval (.tmp 66) = _ := h66
              have hcell : w'.cell? ⟨bl, offl + i, none⟩ = some (.int .i64 X) := HCX.out _ hl.kept
              refine wp_val (.int .i64 X) ?_ (hK _ _ (Kept.refl _) rfl)
              clear hl hK
              generalize a.eval = ρ at *
              simp [execOp, go_sem, h66, hcell]
            refine AllSteps.cons (Step.move _ rfl rfl fun a w' hl => hl.old 10 rfl) ?_
            refine AllSteps.cons (Step.move _ rfl rfl fun a w' hl => hl.old 11 rfl) ?_
            refine AllSteps.cons (Step.move _ rfl rfl fun a w' hl => hl.old 3 rfl) ?_
            refine AllSteps.cons (Step.plain rfl fun a w' K hl hK => ?_) ?_
            · obtain ⟨_, _, _, h70⟩ := hl.dep 8 70 rfl rfl
              replace h70 : a.eval (.tmp 70) = _ := h70
              refine wp_call rfl Try.func18 rfl rfl #[.slice Ad dat.length cd] (by simp [h70]) ?_
              refine (BD.out w' hl.kept).mono ?_
              rintro e w7 ⟨A7, c7, rfl, hm7, hb7⟩
              obtain ⟨_, _, hv8, _, _, hs8⟩ := hm7.form
              injection hv8 with e1 _ e2
              subst e1; subst e2
              exact ⟨_, rfl, hK _ _ hb7 ⟨A7, c7, rfl, hs8⟩⟩
            refine AllSteps.cons (Step.plain rfl fun a w' K hl hK => ?_) ?_
            · obtain ⟨_, wA, hkA, A3x, c3x, h63, hs63⟩ := hl.dep 1 63 rfl rfl
              obtain ⟨_, _, _, h67⟩ := hl.dep 5 67 rfl rfl
              replace h67 : a.eval (.tmp 67) = _ := h67
              obtain ⟨_, _, _, h68⟩ := hl.dep 6 68 rfl rfl
              replace h68 : a.eval (.tmp 68) = _ := h68
              obtain ⟨_, _, _, h69⟩ := hl.dep 7 69 rfl rfl
              replace h69 : a.eval (.tmp 69) = _ := h69
              obtain ⟨_, wB, hkB, A7x, c7x, h71, hs71⟩ := hl.dep 9 71 rfl rfl
              refine wp_call rfl Try.func19 rfl rfl #[.slice A3x lo.length c3x, .int .i64 X, .int .i64 (S : Int), .int .i64 (A : Int), .slice A7x dat.length c7x] (by simp [h63, h67, h68, h69, h71]) ?_
              refine (FY.out A3x A7x c3x c7x w' (hs63.on (Nat.le_refl _) hkA) (hs71.on (Nat.le_refl _) hkB)).mono ?_
              rintro e w7 ⟨g7, rfl, ho7, hb7⟩
              exact ⟨_, rfl, hK _ _ hb7 ⟨g7, rfl, Sl.own ho7⟩⟩
            refine AllSteps.cons (Step.move _ rfl rfl fun a w' hl => let ⟨_, _, hk, h⟩ := hl.dep 10 72 rfl rfl; FT.kept h hk) ?_
            refine AllSteps.cons (Step.plain rfl fun a w' K hl hK => ?_) ?_
            · obtain ⟨_, w1, hk1, ⟨g8x, h61, hs61⟩⟩ := hl.dep 11 61 rfl rfl
              refine wp_val (.slice (some ⟨g8x, 0, none⟩) 128 128) ?_ (hK _ _ (Kept.refl _) ⟨g8x, rfl, hs61.on (Nat.le_refl _) hk1⟩)
              clear hl hK
              generalize a.eval = ρ at *
              simp [execOp, go_sem, h61]
            refine AllSteps.cons (Step.plain rfl fun a w' K hl hK => ?_) ?_
            · obtain ⟨_, w1, hk1, ⟨g8x, h61, hs61⟩⟩ := hl.dep 11 61 rfl rfl
              refine wp_val (.bool true) ?_ (hK _ _ (Kept.refl _) rfl)
              clear hl hK
              generalize a.eval = ρ at *
              simp [execOp, go_sem, h61]
            refine AllSteps.cons (Step.assign _ rfl rfl fun a w' hl => let ⟨_, _, hk, h⟩ := hl.dep 12 73 rfl rfl; FS.kept h hk) ?_
            refine AllSteps.cons (Step.assign _ rfl rfl fun a w' hl => let ⟨_, _, _, h⟩ := hl.dep 13 74 rfl rfl; h) ?_
            exact AllSteps.nil
          · intro f' w5 hk5 hf'
            obtain ⟨wA, hkA, g5, h15, hs5⟩ := hf' 15 rfl rfl
            obtain ⟨_, _, h16⟩ := hf' 16 rfl rfl
            replace h16 : f' 16 = .bool true := h16
            have HS5 := Lib.hid (hs5.on (Nat.le_refl _) hkA)
            have HB5 := Lib.hid (HBR.out.trans (Below.mono hk5 HBR.out.size))
            have HCX2 : Hid (∀ w', Below w5.heap.size w5 w' → w'.cell? ⟨bl, offl + i, none⟩ = some (.int .i64 X)) := Lib.hid fun w' hk => HCX.out w' (Below.trans hk5 (hk.mono (Below.size hk5)))
            have BD2 : Hid (∀ w', Below w5.heap.size w5 w' → Calls Try.prog 18 #[.slice Ad dat.length cd] w' (ResM w' dat)) := Lib.hid fun w' hk => BD.out w' (Below.trans hk5 (hk.mono (Below.size hk5)))
            simp only [Exit.then, fill, dsts, List.filterMap_cons, List.filterMap_nil, List.foldl_cons, List.foldl_nil, Act.put, h15, h16, List.setIfInBounds_toArray, List.set_cons_succ, List.set_cons_zero]
            clear hf' hs5 hkA hk5 h15 h16
            go_wp2_with fail
            refine wp_region_rely (by kernel_rfl) (fun d u w' => match d with
              | 17 => FS RR2 u w'
              | 18 => u = (.bool true : Value)
              | 75 => FT RR2 u w'
              | 76 => u = (.slice (some ⟨bl, offl, none⟩) m c1 : Value)
              | 77 => u = (.int .i64 (i : Int) : Value)
              | 78 => u = (.pointer (some ⟨bl, offl + i, none⟩) : Value)
              | 79 => u = (.int .i64 X : Value)
              | 80 => u = (.int .i64 (S : Int) : Value)
              | 81 => u = (.int .i64 (A : Int) : Value)
              | 82 => u = (.slice Ad dat.length cd : Value)
              | 83 => BS dat u w'
              | 84 => FT RR2 u w'
              | 85 => FS RR2 u w'
              | 86 => u = (.bool true : Value)
              | _ => True) 159 rfl (by decide +kernel) [17, 18] ?_ ?_
            · refine AllSteps.cons (Step.move _ rfl rfl fun a w' hl => hl.old 12 rfl) ?_
              refine AllSteps.cons (Step.move _ rfl rfl fun a w' hl => hl.old 14 rfl) ?_
              refine AllSteps.cons (Step.plain rfl fun a w' K hl hK => ?_) ?_
              · obtain ⟨_, _, _, h76⟩ := hl.dep 0 76 rfl rfl
                replace h76 : a.eval (.tmp 76) = _ := h76
                obtain ⟨_, _, _, h77⟩ := hl.dep 1 77 rfl rfl
                replace h77 : a.eval (.tmp 77) = _ := h77
                refine wp_val (.pointer (some ⟨bl, offl + i, none⟩)) ?_ (hK _ _ (Kept.refl _) rfl)
                clear hl hK
                generalize a.eval = ρ at *
                simp [execOp, go_sem, h76, h77]
                try omega
              refine AllSteps.cons (Step.plain rfl fun a w' K hl hK => ?_) ?_
              · obtain ⟨_, _, _, h78⟩ := hl.dep 2 78 rfl rfl
                replace h78 : a.eval (.tmp 78) = _ := h78
                have hcell : w'.cell? ⟨bl, offl + i, none⟩ = some (.int .i64 X) := HCX2.out _ hl.kept
                refine wp_val (.int .i64 X) ?_ (hK _ _ (Kept.refl _) rfl)
                clear hl hK
                generalize a.eval = ρ at *
                simp [execOp, go_sem, h78, hcell]
              refine AllSteps.cons (Step.move _ rfl rfl fun a w' hl => hl.old 10 rfl) ?_
              refine AllSteps.cons (Step.move _ rfl rfl fun a w' hl => hl.old 11 rfl) ?_
              refine AllSteps.cons (Step.move _ rfl rfl fun a w' hl => hl.old 3 rfl) ?_
              refine AllSteps.cons (Step.plain rfl fun a w' K hl hK => ?_) ?_
              · obtain ⟨_, _, _, h82⟩ := hl.dep 6 82 rfl rfl
                replace h82 : a.eval (.tmp 82) = _ := h82
                refine wp_call rfl Try.func18 rfl rfl #[.slice Ad dat.length cd] (by simp [h82]) ?_
                refine (BD2.out w' hl.kept).mono ?_
                rintro e w7 ⟨A7, c7, rfl, hm7, hb7⟩
                obtain ⟨_, _, hv8, _, _, hs8⟩ := hm7.form
                injection hv8 with e1 _ e2
                subst e1; subst e2
                exact ⟨_, rfl, hK _ _ hb7 ⟨A7, c7, rfl, hs8⟩⟩
              refine AllSteps.cons (Step.plain rfl fun a w' K hl hK => ?_) ?_
              · obtain ⟨_, _, _, h79⟩ := hl.dep 3 79 rfl rfl
                replace h79 : a.eval (.tmp 79) = _ := h79
                obtain ⟨_, _, _, h80⟩ := hl.dep 4 80 rfl rfl
                replace h80 : a.eval (.tmp 80) = _ := h80
                obtain ⟨_, _, _, h81⟩ := hl.dep 5 81 rfl rfl
                replace h81 : a.eval (.tmp 81) = _ := h81
                obtain ⟨_, w1, hk1, ⟨A7x, c7x, h83, hs83⟩⟩ := hl.dep 7 83 rfl rfl
                refine wp_call rfl Try.func19 rfl rfl #[.slice none 0 0, .int .i64 X, .int .i64 (S : Int), .int .i64 (A : Int), .slice A7x dat.length c7x] (by have hconst : ∀ x, a.eval (.const x) = x := (fun _ => rfl); simp [h79, h80, h81, h83, hconst]) ?_
                refine (FN.out A7x c7x w' (hs83.on (Nat.le_refl _) hk1)).mono ?_
                rintro e w7 ⟨g7, rfl, ho7, hb7⟩
                exact ⟨_, rfl, hK _ _ hb7 ⟨g7, rfl, Sl.own ho7⟩⟩
              refine AllSteps.cons (Step.move _ rfl rfl fun a w' hl => let ⟨_, _, hk, h⟩ := hl.dep 8 84 rfl rfl; FT.kept h hk) ?_
              refine AllSteps.cons (Step.plain rfl fun a w' K hl hK => ?_) ?_
              · obtain ⟨_, w1, hk1, ⟨g8x, h75, hs75⟩⟩ := hl.dep 9 75 rfl rfl
                refine wp_val (.slice (some ⟨g8x, 0, none⟩) 128 128) ?_ (hK _ _ (Kept.refl _) ⟨g8x, rfl, hs75.on (Nat.le_refl _) hk1⟩)
                clear hl hK
                generalize a.eval = ρ at *
                simp [execOp, go_sem, h75]
              refine AllSteps.cons (Step.plain rfl fun a w' K hl hK => ?_) ?_
              · obtain ⟨_, w1, hk1, ⟨g8x, h75, hs75⟩⟩ := hl.dep 9 75 rfl rfl
                refine wp_val (.bool true) ?_ (hK _ _ (Kept.refl _) rfl)
                clear hl hK
                generalize a.eval = ρ at *
                simp [execOp, go_sem, h75]
              refine AllSteps.cons (Step.assign _ rfl rfl fun a w' hl => let ⟨_, _, hk, h⟩ := hl.dep 10 85 rfl rfl; FS.kept h hk) ?_
              refine AllSteps.cons (Step.assign _ rfl rfl fun a w' hl => let ⟨_, _, _, h⟩ := hl.dep 11 86 rfl rfl; h) ?_
              exact AllSteps.nil
            · intro f2 w6 hk6 hf2
              obtain ⟨wB, hkB, g6, h17, hs6⟩ := hf2 17 rfl rfl
              obtain ⟨_, _, h18⟩ := hf2 18 rfl rfl
              replace h18 : f2 18 = .bool true := h18
              have HS6 := Lib.hid (hs6.on (Nat.le_refl _) hkB)
              have HS5' := Lib.hid (HS5.out.on (Nat.le_refl _) hk6)
              have HB6 := Lib.hid (HB5.out.trans (Below.mono hk6 HB5.out.size))
              simp only [Exit.then, fill, dsts, List.filterMap_cons, List.filterMap_nil, List.foldl_cons, List.foldl_nil, Act.put, h17, h18, List.setIfInBounds_toArray, List.set_cons_succ, List.set_cons_zero]
              clear hf2 hs6 hkB hk6 h17 h18
              have HDK : Hid (∀ wk, Below w6.heap.size w6 wk → Sl wk wk.heap.size 1 Ad dat.length (dat.map bv)) := Lib.hid fun wk hk => (HD3.out.on (Nat.le_refl _) HB6.out).on (Nat.le_refl _) hk
              have HCO : Hid (∀ wk, Below w6.heap.size w6 wk → ∀ k, k < 128 → ∀ y, y = lo.getD k 0 → wk.cell? ⟨go, k, none⟩ = some (.int .u8 (y.toNat : Int))) := Lib.hid fun wk hk k hk2 y hy => by
                obtain ⟨ad, hA, _, hcc⟩ := ((HO3.out.on (Nat.le_refl _) HB6.out).on (Nat.le_refl _) hk).2 (by omega)
                injection hA with hA
                subst hA
                have hl2 : k < lo.length := by rw [HLO.out]; exact hk2
                have := hcc k _ (bv_at lo k hl2)
                rw [Addr.add_lit, Nat.zero_add] at this
                rw [this, hy, List.getD_eq_getElem?_getD, List.getElem?_eq_getElem hl2]
                rfl
              have HCB : Hid (∀ wk, Below w6.heap.size w6 wk → ∀ k, k < 128 → wk.cell? ⟨g5, k, none⟩ = some (.int .u8 ((fillB lo dat P S A k).toNat : Int)) ∧ wk.cell? ⟨g6, k, none⟩ = some (.int .u8 ((fillB [] dat P S A k).toNat : Int))) := Lib.hid fun wk hk k hk2 => by
                obtain ⟨ad, hA, _, hcc⟩ := (HS5'.out.on (Nat.le_refl _) hk).2 (by omega)
                injection hA with hA
                subst hA
                obtain ⟨ad2, hA2, _, hcc2⟩ := (HS6.out.on (Nat.le_refl _) hk).2 (by omega)
                injection hA2 with hA2
                subst hA2
                have h1 := hcc k (bv (fillB lo dat P S A k)) (by rw [List.getElem?_map, HR1.out, fill_get _ _ _ _ _ _ hk2]; rfl)
                have h2 := hcc2 k (bv (fillB [] dat P S A k)) (by rw [List.getElem?_map, HR2.out, fill_get _ _ _ _ _ _ hk2]; rfl)
                rw [Addr.add_lit, Nat.zero_add] at h1 h2
                exact ⟨h1, h2⟩
              have hcx6 : ∀ wk, Below w6.heap.size w6 wk → wk.cell? ⟨bl, offl + i, none⟩ = some (.int .i64 X) := fun wk hk => (Below.cell hk (p := ⟨bl, offl + i, none⟩) (Nat.lt_of_lt_of_le HBL.out HB6.out.size)).trans ((Below.cell HB6.out (p := ⟨bl, offl + i, none⟩) HBL.out).trans ((Below.cell HBR.out (p := ⟨bl, offl + i, none⟩) HBL.out).symm.trans (HCX.out wr (Below.refl _ _))))
              have HX6 := Lib.hid hcx6
              clear hcx6
              go_wp2_with fail
              go_loopw [19] (fun i wk => ∃ k : Nat, k ≤ 128 ∧ i = .int .i64 (k : Int) ∧ Below w6.heap.size w6 wk) (fun i _ => 128 - (intOf i).toNat)
              case atStart => exact ⟨0, by omega, rfl, Below.refl _ _⟩
              case round =>
                obtain ⟨wk, rfl⟩ : ∃ wk : World, wk = wr := ⟨_, rfl⟩
                obtain ⟨k, hk, rfl, hbk⟩ := hrel
                have HBK := Lib.hid hbk
                clear hbk
                by_cases hlt : k < 128
                · have hkI : (k : Int) < 128 := by omega
                  have hk0 : (0 : Int) ≤ (k : Int) := by omega
                  have hcx := HX6.out wk HBK.out
                  obtain ⟨hcb, hcc⟩ := HCB.out wk HBK.out k hlt
                  by_cases h3 : P + k < S
                  · have h3I : (P : Int) + (k : Int) < (S : Int) := by omega
                    obtain ⟨y, hy⟩ : ∃ y, y = lo.getD k 0 := ⟨_, rfl⟩
                    have hc0 : wk.cell? ⟨go, k, none⟩ = some (.int .u8 (y.toNat : Int)) := HCO.out _ HBK.out k hlt y hy
                    have HY := Lib.hid hy
                    clear hy
                    by_cases h1 : A ≤ P + k
                    · have h1I : (A : Int) ≤ (P : Int) + (k : Int) := by omega
                      by_cases h2 : P + k < A + dat.length
                      · have h2I : (P : Int) + (k : Int) < (A : Int) + (dat.length : Int) := by omega
                        obtain ⟨j, hj⟩ : ∃ j : Nat, j = P + k - A := ⟨_, rfl⟩
                        have hjI : (P : Int) + (k : Int) - (A : Int) = (j : Int) := by omega
                        have hjl : j < dat.length := by omega
                        have hjlI : (j : Int) < (dat.length : Int) := by omega
                        have hj0 : (0 : Int) ≤ (j : Int) := by omega
                        obtain ⟨z, hz⟩ : ∃ z, z = dat.getD j 0 := ⟨_, rfl⟩
                        have hF1 : fillB lo dat P S A k = z := by unfold fillB; rw [if_pos ⟨h1, h2⟩, ← hj, hz]
                        have hF2 : fillB [] dat P S A k = z := by unfold fillB; rw [if_pos ⟨h1, h2⟩, ← hj, hz]
                        obtain ⟨b2, off2, rfl, hbb2, hcell2⟩ := (HDK.out _ HBK.out).at (by omega) (by decide)
                        have hc2 : wk.cell? ⟨b2, off2 + j, none⟩ = some (.int .u8 (z.toNat : Int)) := hcell2 j _ (by rw [bv_at dat j hjl, hz, List.getD_eq_getElem?_getD, List.getElem?_eq_getElem hjl]; rfl)
                        rw [hF1] at hcb
                        rw [hF2] at hcc
                        have hzz : ((z.toNat : Int) != (z.toNat : Int)) = false := by simp
                        clear hcell2 hbb2 hj hz hF1 hF2 h1 h2 h3
                        go_wp2
                        go_quiet (fail)
                        go_wp2
                        go_roundw
                        case rel => exact ⟨k + 1, by omega, by go_num, bel_drewN HBK.out _⟩
                        case measure => simp [intOf]; omega
                      · have h2I : (A : Int) + (dat.length : Int) ≤ (P : Int) + (k : Int) := by omega
                        have hF1 : fillB lo dat P S A k = y := by unfold fillB; rw [if_neg (by omega), if_pos ⟨h3, by have := HLO.out; omega⟩, HY.out]
                        have hF2 : fillB [] dat P S A k = 0 := by unfold fillB; rw [if_neg (by omega), if_neg (by simp)]
                        rw [hF1] at hcb
                        rw [hF2] at hcc
                        have hzz : ((y.toNat : Int) != (y.toNat : Int)) = false := by simp
                        clear hF1 hF2 h1 h2 h3
                        go_wp2_with fail
                        go_roundw
                        case rel => exact ⟨k + 1, by omega, by go_num, HBK.out⟩
                        case measure => simp [intOf]; omega
                    · have h1I : (P : Int) + (k : Int) < (A : Int) := by omega
                      have hF1 : fillB lo dat P S A k = y := by unfold fillB; rw [if_neg (by omega), if_pos ⟨h3, by have := HLO.out; omega⟩, HY.out]
                      have hF2 : fillB [] dat P S A k = 0 := by unfold fillB; rw [if_neg (by omega), if_neg (by simp)]
                      rw [hF1] at hcb
                      rw [hF2] at hcc
                      have hzz : ((y.toNat : Int) != (y.toNat : Int)) = false := by simp
                      clear hF1 hF2 h1 h3
                      go_wp2_with fail
                      go_roundw
                      case rel => exact ⟨k + 1, by omega, by go_num, HBK.out⟩
                      case measure => simp [intOf]; omega
                  · have h3I : (S : Int) ≤ (P : Int) + (k : Int) := by omega
                    by_cases h1 : A ≤ P + k
                    · have h1I : (A : Int) ≤ (P : Int) + (k : Int) := by omega
                      by_cases h2 : P + k < A + dat.length
                      · have h2I : (P : Int) + (k : Int) < (A : Int) + (dat.length : Int) := by omega
                        obtain ⟨j, hj⟩ : ∃ j : Nat, j = P + k - A := ⟨_, rfl⟩
                        have hjI : (P : Int) + (k : Int) - (A : Int) = (j : Int) := by omega
                        have hjl : j < dat.length := by omega
                        have hjlI : (j : Int) < (dat.length : Int) := by omega
                        have hj0 : (0 : Int) ≤ (j : Int) := by omega
                        obtain ⟨z, hz⟩ : ∃ z, z = dat.getD j 0 := ⟨_, rfl⟩
                        have hF1 : fillB lo dat P S A k = z := by unfold fillB; rw [if_pos ⟨h1, h2⟩, ← hj, hz]
                        have hF2 : fillB [] dat P S A k = z := by unfold fillB; rw [if_pos ⟨h1, h2⟩, ← hj, hz]
                        obtain ⟨b2, off2, rfl, hbb2, hcell2⟩ := (HDK.out _ HBK.out).at (by omega) (by decide)
                        have hc2 : wk.cell? ⟨b2, off2 + j, none⟩ = some (.int .u8 (z.toNat : Int)) := hcell2 j _ (by rw [bv_at dat j hjl, hz, List.getD_eq_getElem?_getD, List.getElem?_eq_getElem hjl]; rfl)
                        rw [hF1] at hcb
                        rw [hF2] at hcc
                        have hzz : ((z.toNat : Int) != (z.toNat : Int)) = false := by simp
                        clear hcell2 hbb2 hj hz hF1 hF2 h1 h2 h3
                        go_wp2
                        go_quiet (fail)
                        go_wp2
                        go_roundw
                        case rel => exact ⟨k + 1, by omega, by go_num, bel_drewN HBK.out _⟩
                        case measure => simp [intOf]; omega
                      · have h2I : (A : Int) + (dat.length : Int) ≤ (P : Int) + (k : Int) := by omega
                        have hF1 : fillB lo dat P S A k = 0 := by unfold fillB; rw [if_neg (by omega), if_neg (fun h => h3 h.1)]
                        have hF2 : fillB [] dat P S A k = 0 := by unfold fillB; rw [if_neg (by omega), if_neg (by simp)]
                        rw [hF1] at hcb
                        rw [hF2] at hcc
                        clear hF1 hF2 h1 h2 h3
                        go_wp2_with fail
                        go_roundw
                        case rel => exact ⟨k + 1, by omega, by go_num, HBK.out⟩
                        case measure => simp [intOf]; omega
                    · have h1I : (P : Int) + (k : Int) < (A : Int) := by omega
                      have hF1 : fillB lo dat P S A k = 0 := by unfold fillB; rw [if_neg (by omega), if_neg (fun h => h3 h.1)]
                      have hF2 : fillB [] dat P S A k = 0 := by unfold fillB; rw [if_neg (by omega), if_neg (by simp)]
                      rw [hF1] at hcb
                      rw [hF2] at hcc
                      clear hF1 hF2 h1 h3
                      go_wp2_with fail
                      go_roundw
                      case rel => exact ⟨k + 1, by omega, by go_num, HBK.out⟩
                      case measure => simp [intOf]; omega
                · have hge : (128 : Int) ≤ (k : Int) := by omega
                  go_wp2_with fail
                  go_roundw
                  case rel => exact ⟨i + 1, by omega, by go_num, HB6.out.trans (HBK.out.mono HB6.out.size)⟩
                  case measure => simp [intOf]; omega
      · have hge : (m : Int) ≤ (i : Int) := by omega
        go_wp2_with fail
        refine (awake_any _).mono ?_
        rintro e w7 ⟨rfl, hb7⟩
        have HB7 := Lib.hid hb7
        clear hb7
        go_wp2_with fail
        go_ret
        exact ⟨rfl, HB3.out.trans ((HBR.out.trans (HB7.out.mono HBR.out.size)).mono HB3.out.size)⟩
  · have hcase : (dat.length : Int) < 1 ∨ (1 ≤ (dat.length : Int) ∧ 300 < (dat.length : Int)) := by omega
    clear hin
    rcases hcase with h1 | ⟨h1, h2⟩
    all_goals
      go_enter Try.func7, Try.ntmps7
      go_wp2_with (first
        | (refine wpList_make_bytes rfl _ _ rfl 128 (by decide) rfl rfl ?_; intro w2 hmk hmb2 hmlt)
        | (refine wpList_copy_bytes rfl _ _ rfl (M := List.replicate 128 0) (l := old) (by simp) rfl rfl hmk (HO0.out.on (Nat.le_refl _) hmb2) ?_; intro w1 v1 hcp hon))
      have HBA := Lib.hid (hon.below hmb2 (Nat.le_refl _))
      clear hcp hon hmk hmb2
      refine (P1.out _).mono ?_
      rintro e w' ⟨rfl, rfl⟩
      go_wp2_with fail
      refine (P2.out _).mono ?_
      rintro e w' ⟨rfl, rfl⟩
      go_wp2_with fail
      refine (awake_any _).mono ?_
      rintro e w7 ⟨rfl, hb7⟩
      have HB7 := Lib.hid hb7
      clear hb7
      go_wp2_with fail
      go_ret
      exact ⟨rfl, HBA.out.trans (HB7.out.mono HBA.out.size)⟩
end Go.Proofs.Ytndfkpajojbfkaa.Ck

