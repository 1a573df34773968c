/-
  The document's Get of any bytes.
-/
import Derived.Test.YtbhpkknimjmpjaaInode10
import Derived.Test.YtbhpkknimjmpjaaInode11
import Derived.Test.YtbhpkknimjmpjaaInode13
import Derived.Test.YtbhpkknimjmpjaaInode5
import Derived.Test.YtbhpkknimjmpjaaRowRely
namespace Go.Proofs.Ytbhpkknimjmpjaa.In
open Go.RowKit Wd Wi
set_option linter.unusedVariables false
attribute [local go_sem] str_toList str_append str_size

theorem rcheckL {xs : List Int} (h : xs.length = 37) (w : World) : Calls Try.prog 15 #[.agg (ints xs)] w fun e w' => e = .returned (.bool (chkL xs)) ∧ Below w.heap.size w w' := by
  obtain ⟨k0, s0, l0, o0, n0, ps, rfl, hps⟩ := five h
  exact rcheck_any k0 s0 l0 o0 n0 ps hps w
theorem riputL {xs : List Int} (h : xs.length = 37) (hc : chkL xs = true) (w : World) : Calls Try.prog 17 #[.agg (ints xs)] w fun e w' => ∃ A c, e = .returned (.slice A (blkL xs).length c) ∧ Sl w' w'.heap.size 1 A (blkL xs).length ((blkL xs).map bv) ∧ Below w.heap.size w w' := by
  rw [blk_len h]
  obtain ⟨k0, s0, l0, o0, n0, ps, rfl, hps⟩ := five h
  exact riput_yes k0 s0 l0 o0 n0 ps hps w hc
set_option maxRecDepth 100000 in
set_option maxHeartbeats 800000 in
theorem riget_short (A : Option Addr) (l : List UInt8) (c : Nat) (w : World) (hlen : l.length ≠ 128) (hl : l.length ≤ 140737488355328) :
    Calls Try.prog 10 #[.slice A l.length c] w (GetR w l) := by
  have hno : isIno l = false := by simp [isIno, hlen]
  have hne : ((l.length : Int) != 128) = true := by simp; omega
  unfold GetR getV
  rw [hno]
  have HD := Lib.hid hlen
  clear hlen hno
  go_enter Try.func10, Try.ntmps10
  go_wp2_with (first
    | ((with_reducible show wpList _ _ _ (⟨some 2, _, _, _, _, _⟩ :: _) _ _); refine wpList_alloc_ino rfl rfl ?_; intro w1 hr1 hb1 hlt1)
    | ((with_reducible show wpList _ _ _ (⟨some 9, _, _, _, _, _⟩ :: _) _ _); refine wpList_build_ino rfl rfl ?_)
    | ((with_reducible show wpList _ _ _ (⟨none, _, _, _, _, _⟩ :: _) _ _); refine wpList_store_ino rfl _ _ rfl hr1 zIno_len zIno_len rfl rfl ?_; intro w2 hr2 ho2))
  (try simp only [Exit.inBlock, Exit.then])
  refine bodyPost_ret (results_ino rfl hr2 zIno_len _ rfl) rfl ?_
  exact ⟨rfl, ho2.below hb1 (Nat.le_refl _)⟩

set_option maxRecDepth 100000 in
set_option maxHeartbeats 800000 in
theorem riget_long (A : Option Addr) (l : List UInt8) (c : Nat) (w : World) (hlen : l.length = 128) (hs : Sl w w.heap.size 1 A l.length (l.map bv)) (hc : l.length ≤ c) (hc2 : c ≤ maxLen) :
    Calls Try.prog 10 #[.slice A l.length c] w (GetR w l) := by
  have hne : ((l.length : Int) != 128) = false := by simp; omega
  obtain ⟨g, hg⟩ : ∃ g : Int → Int → Int, g = fun a k => ((leN (seg l a.toNat k.toNat) : Nat) : Int) := ⟨_, rfl⟩
  have hget : ∀ (a k : Int), 0 ≤ a → 1 ≤ k → k ≤ 7 → a + k ≤ 128 → ∀ w', Below w.heap.size w w' → Calls Try.prog 19 #[.slice A l.length c, .int .i64 a, .int .i64 k] w' fun e w'' => e = .returned (.tuple #[.int .i64 (g a k), .bool true]) ∧ w' = w'' :=
    fun a k h1 h2 h3 h4 w' hb => by
      rw [hg]
      exact rget_yes A l c a k w' (hs.on (Nat.le_refl _) hb) (Nat.le_trans hc hc2) h1 h2 h3 (by omega)
  have hdec : dec l = g 0 1 :: g 1 2 :: g 3 2 :: g 5 3 :: g 8 3 :: decP l := by rw [hg]; rfl
  have hdat : ∀ k : Nat, k < 32 → (dec l)[5 + k]? = some (g (11 + 2 * (k : Int)) 2) := fun k hk => by
    rw [dec_at l k hk, hg]
    show some ((leN (seg l (11 + 2 * k) 2) : Nat) : Int) = some ((leN (seg l (11 + 2 * (k : Int)).toNat 2) : Nat) : Int)
    rw [show (11 + 2 * (k : Int)).toNat = 11 + 2 * k by omega]
  have hdl := dec_len l
  have HS := Lib.hid hs
  have HLEN := Lib.hid hlen
  have HDEC := Lib.hid hdec
  have HGET := Lib.hid hget
  have HDAT := Lib.hid hdat
  have HDL := Lib.hid hdl
  have HC := Lib.hid (And.intro hc hc2)
  clear hs hlen hdec hget hc hc2 hg hdat hdl
  go_enter Try.func10, Try.ntmps10
  go_wp2_with (first
    | ((with_reducible show wpList _ _ _ (⟨some 2, _, _, _, _, _⟩ :: _) _ _); refine wpList_alloc_ino rfl rfl ?_; intro w1 hr1 hb1 hlt1)
    | ((with_reducible show wpList _ _ _ (⟨some 4, _, _, _, _, _⟩ :: _) _ _); refine wpList_alloc_ino rfl rfl ?_; intro w2 hr2 hb2 hlt2; have HB : Hid (Below w.heap.size w w2) := hb1.trans (hb2.mono hb1.size); have HZ : Hid (IRow w2 w.heap.size zIno) := hr1.below hb2 hlt1; have HL : Hid (zIno.length = 37) := zIno_len; have HLT : Hid (w.heap.size < w1.heap.size) := hlt1; clear hb2 hlt2 hr1 hb1 hlt1)
    | ((with_reducible show wpList _ _ _ (⟨some 10, _, _, _, _, _⟩ :: _) _ _); refine wpList_build_ino rfl rfl ?_)
    | ((with_reducible show wpList _ _ _ (⟨none, Op.store 26 (.tmp 4) _, _, _, _, _⟩ :: _) _ _); refine wpList_store_ino rfl _ _ rfl hr2 zIno_len zIno_len rfl rfl ?_; clear hr2; intro w4 hr2 ho4; replace HB : Hid (Below w.heap.size w w4) := ho4.below HB.out (Nat.le_of_lt HLT.out); replace HZ : Hid (IRow w4 w.heap.size zIno) := HZ.out.only ho4 (Nat.ne_of_lt HLT.out); clear ho4)
    | (go_at_call 19; refine (HGET.out _ _ (by omega) (by omega) (by omega) (by omega) _ HB.out).mono ?_; rintro e w3 ⟨rfl, rfl⟩)
    | ((with_reducible show wpList _ _ _ (⟨none, Op.store 3 _ _, _, _, _, _⟩ :: _) _ _); refine wpList_store_num rfl _ _ _ rfl Try.underlying3 (by kernel_rfl) hr2 HL.out _ _ (by decide) rfl rfl ?_; clear hr2; intro w4 hr2 ho4 hl4; replace HB : Hid (Below w.heap.size w w4) := ho4.below HB.out (Nat.le_of_lt HLT.out); replace HZ : Hid (IRow w4 w.heap.size zIno) := HZ.out.only ho4 (Nat.ne_of_lt HLT.out); replace HL := Lib.hid hl4; clear ho4 hl4))
  go_loopw [5] (fun j wr => ∃ k : Nat, k ≤ 32 ∧ j = .int .i64 (k : Int) ∧ ∃ xs : List Int, xs.length = 37 ∧ xs.take (5 + k) = (dec l).take (5 + k) ∧ IRow wr w1.heap.size xs ∧ IRow wr w.heap.size zIno ∧ Below w.heap.size w wr) (fun j _ => 32 - (intOf j).toNat)
  case atStart => exact ⟨0, by omega, rfl, _, HL.out, by rw [HDEC.out]; rfl, hr2, HZ.out, HB.out⟩
  case round =>
    obtain ⟨k, hk, rfl, xs, hl, ht, hr, hz, hb⟩ := hrel
    have HL := Lib.hid hl
    have HT := Lib.hid ht
    have HR := Lib.hid hr
    have HZ := Lib.hid hz
    have HB := Lib.hid hb
    clear hl ht hr hz hb
    by_cases hlt : k < 32
    · have hltI : (k : Int) < 32 := by omega
      go_wp2_with (first
        | (go_at_call 19; refine (HGET.out _ _ (by omega) (by omega) (by omega) (by omega) _ HB.out).mono ?_; rintro e w3 ⟨rfl, rfl⟩)
        | ((with_reducible show wpList _ _ _ (⟨none, Op.store 3 _ _, _, _, _, _⟩ :: _) _ _); refine wpList_store_num rfl _ _ _ rfl Try.underlying3 (by kernel_rfl) HR.out HL.out _ _ (show (5 + k : Nat) < 37 by omega) rfl rfl ?_; intro w5 hr5 ho5 hl5))
      go_roundw
      case measure => simp [intOf]; omega
      case rel =>
        exact ⟨k + 1, by omega, by simp, _, hl5, take_set_next HT.out (Nat.lt_of_lt_of_eq (show (5 + k : Nat) < 37 by omega) HL.out.symm) (HDAT.out k hlt), hr5, HZ.out.only ho5 (Nat.ne_of_lt HLT.out), ho5.below HB.out (Nat.le_of_lt HLT.out)⟩
    · have hge : (32 : Int) ≤ (k : Int) := by omega
      have hxs : xs = dec l := by
        have h := HT.out
        rw [List.take_of_length_le (by rw [HL.out]; omega), List.take_of_length_le (by rw [HDL.out]; omega)] at h
        exact h
      clear HT HL HDAT HDEC HGET
      subst hxs
      have HFN : Hid (isIno l = false → ∀ w', Below w.heap.size w w' → GetR w l (.returned (.tuple #[.agg (ints zIno), .bool false])) w') := fun h w' hb => getR_no h hb
      have HFY : Hid (isIno l = true → ∀ w', Below w.heap.size w w' → GetR w l (.returned (.tuple #[.agg (ints (dec l)), .bool true])) w') := fun h w' hb => getR_yes h hb
      have hck := fun w' => rcheckL HDL.out w'
      have hi1 : chkL (dec l) = false → isIno l = false := fun h => by simp [isIno, h]
      have hi2 : ¬ blkL (dec l) = l → isIno l = false := fun h => by simp [isIno, h]
      have hi3 : chkL (dec l) = true → blkL (dec l) = l → isIno l = true := fun h h2 => by simp [isIno, h, h2, HLEN.out]
      have hput := fun h w' => riputL HDL.out h w'
      generalize blkL (dec l) = M at *
      obtain ⟨D, hD⟩ : ∃ D, D = dec l := ⟨_, rfl⟩
      rw [← hD] at HR HDL HFY hck hi1 hi3 hput
      clear hD
      cases hchk : chkL D
      · have HFIN := Lib.hid (HFN.out (hi1 hchk))
        rw [hchk] at hck
        have HCK := Lib.hid hck
        clear hck hi1 hi2 hi3 hput hchk
        go_wp2_with fail
        refine wp_region_rely (by kernel_rfl) (fun d u w' => match d with
          | 56 => u = (.agg (ints D) : Value)
          | 57 => u = (.bool false : Value)
          | 58 => u = (.bool true : Value)
          | 59 => u = (.bool true : Value)
          | 60 => u = (Go.undef : Value)
          | 61 => u = (Go.undef : Value)
          | 62 => u = (Go.undef : Value)
          | 63 => u = (Go.undef : Value)
          | 64 => u = (Go.undef : Value)
          | 65 => u = (Go.undef : Value)
          | 66 => u = (.bool true : Value)
          | _ => True) 69 rfl (by decide +kernel) [66] ?_ ?_
        · refine AllSteps.cons (Step.plain rfl fun a w' K hl hK => ?_) ?_
          · have h4 : a.eval (.tmp 4) = (.pointer (some ⟨w1.heap.size, 0, none⟩) : Value) := hl.old 4 rfl
            exact wp_load_ino rfl (HR.out.kept hl.kept (HR.out.lt (by rw [HDL.out]; decide))) HDL.out h4 (hK _ _ (Kept.refl _) rfl)
          refine AllSteps.cons (Step.plain rfl fun a w' K hl hK => ?_) ?_
          · obtain ⟨_, _, _, h56⟩ := hl.dep 0 56 rfl rfl
            replace h56 : a.eval (.tmp 56) = _ := h56
            refine wp_call rfl Try.func15 rfl rfl #[.agg (ints D)] (by simp [h56]) ?_
            refine (HCK.out w').mono ?_
            rintro e w7 ⟨rfl, hb7⟩
            exact ⟨_, rfl, hK _ _ hb7 rfl⟩
          refine AllSteps.cons (Step.plain rfl fun a w' K hl hK => ?_) ?_
          · obtain ⟨_, _, _, h57⟩ := hl.dep 1 57 rfl rfl
            replace h57 : a.eval (.tmp 57) = _ := h57
            refine wp_val (.bool true) ?_ (hK _ _ (Kept.refl _) rfl)
            clear hl hK
            generalize a.eval = ρ at *
            simp [execOp, go_sem, h57]
          refine AllSteps.cons (Step.move _ rfl rfl fun a w' hl => let ⟨_, _, _, h⟩ := hl.dep 2 58 rfl rfl; h) ?_
          refine AllSteps.cons (Step.no 3 false 59 rfl rfl rfl (fun u w h => by rw [show u = (.bool true : Value) from h]; intro h'; cases h') (fun _ => rfl)) ?_
          refine AllSteps.cons (Step.no 3 false 59 rfl rfl rfl (fun u w h => by rw [show u = (.bool true : Value) from h]; intro h'; cases h') (fun _ => rfl)) ?_
          refine AllSteps.cons (Step.no 3 false 59 rfl rfl rfl (fun u w h => by rw [show u = (.bool true : Value) from h]; intro h'; cases h') (fun _ => rfl)) ?_
          refine AllSteps.cons (Step.no 3 false 59 rfl rfl rfl (fun u w h => by rw [show u = (.bool true : Value) from h]; intro h'; cases h') (fun _ => rfl)) ?_
          refine AllSteps.cons (Step.no 3 false 59 rfl rfl rfl (fun u w h => by rw [show u = (.bool true : Value) from h]; intro h'; cases h') (fun _ => rfl)) ?_
          refine AllSteps.cons (Step.no 3 false 59 rfl rfl rfl (fun u w h => by rw [show u = (.bool true : Value) from h]; intro h'; cases h') (fun _ => rfl)) ?_
          refine AllSteps.cons (Step.plain rfl fun a w' K hl hK => ?_) ?_
          · obtain ⟨_, _, _, h59⟩ := hl.dep 3 59 rfl rfl
            replace h59 : a.eval (.tmp 59) = _ := h59
            obtain ⟨_, _, _, h65⟩ := hl.dep 9 65 rfl rfl
            replace h65 : a.eval (.tmp 65) = _ := h65
            exact wp_pick rfl true h59 (hK _ _ (Kept.refl _) rfl)
          exact AllSteps.nil
        · intro f w6 hk6 hf
          obtain ⟨_, _, h66⟩ := hf 66 rfl rfl
          replace h66 : f 66 = .bool true := h66
          simp only [Exit.then, fill, dsts, List.filterMap_cons, List.filterMap_nil, List.foldl_cons, List.foldl_nil, Act.put, h66, List.setIfInBounds_toArray, List.set_cons_succ, List.set_cons_zero]
          clear hf h66
          go_wp2_with (first
            | ((with_reducible show wpList _ _ _ (⟨some 67, _, _, _, _, _⟩ :: _) _ _); refine wpList_build_ino rfl rfl ?_)
            | ((with_reducible show wpList _ _ _ (⟨some 68, _, _, _, _, _⟩ :: _) _ _); refine wpList_load_ino rfl _ rfl (HR.out.below hk6 (HR.out.lt (by rw [HDL.out]; decide))) HDL.out rfl ?_)
            | ((with_reducible show wpList _ _ _ (⟨none, _, _, _, _, _⟩ :: _) _ _); refine wpList_store_ino rfl _ _ rfl (HZ.out.below hk6 (HZ.out.lt (by decide))) zIno_len zIno_len rfl rfl ?_; intro w7 hr7 ho7))
          (try simp only [Exit.inBlock, Exit.then])
          refine bodyPost_ret (results_ino rfl hr7 zIno_len _ rfl) rfl ?_
          exact HFIN.out _ (ho7.below (HB.out.trans (Below.mono hk6 HB.out.size)) (Nat.le_refl _))
      · rw [hchk] at hck
        have HCK := Lib.hid hck
        have HP := Lib.hid (hput hchk)
        by_cases hm : M = l
        · have HFIN := Lib.hid (HFY.out (hi3 hchk hm))
          have HSN : Hid (((str M).toList != (str l).toList) = false) := by show _ = _; rw [hm]; simp
          clear hck hi1 hi2 hi3 hput hchk hm
          go_wp2_with fail
          refine wp_region_rely (by kernel_rfl) (fun d u w' => match d with
            | 56 => u = (.agg (ints D) : Value)
            | 57 => u = (.bool true : Value)
            | 58 => u = (.bool false : Value)
            | 59 => u = (.bool false : Value)
            | 60 => u = (.agg (ints D) : Value)
            | 61 => ∃ A c, u = .slice A (M : List UInt8).length c ∧ Sl w' w'.heap.size 1 A M.length (M.map bv)
            | 62 => u = (.string (str (M)) : Value)
            | 63 => u = (.slice A l.length c : Value)
            | 64 => u = (.string (str (l)) : Value)
            | 65 => u = (.bool false : Value)
            | 66 => u = (.bool false : Value)
            | _ => True) 69 rfl (by decide +kernel) [66] ?_ ?_
          · refine AllSteps.cons (Step.plain rfl fun a w' K hl hK => ?_) ?_
            · have h4 : a.eval (.tmp 4) = (.pointer (some ⟨w1.heap.size, 0, none⟩) : Value) := hl.old 4 rfl
              exact wp_load_ino rfl (HR.out.kept hl.kept (HR.out.lt (by rw [HDL.out]; decide))) HDL.out h4 (hK _ _ (Kept.refl _) rfl)
            refine AllSteps.cons (Step.plain rfl fun a w' K hl hK => ?_) ?_
            · obtain ⟨_, _, _, h56⟩ := hl.dep 0 56 rfl rfl
              replace h56 : a.eval (.tmp 56) = _ := h56
              refine wp_call rfl Try.func15 rfl rfl #[.agg (ints D)] (by simp [h56]) ?_
              refine (HCK.out w').mono ?_
              rintro e w7 ⟨rfl, hb7⟩
              exact ⟨_, rfl, hK _ _ hb7 rfl⟩
            refine AllSteps.cons (Step.plain rfl fun a w' K hl hK => ?_) ?_
            · obtain ⟨_, _, _, h57⟩ := hl.dep 1 57 rfl rfl
              replace h57 : a.eval (.tmp 57) = _ := h57
              refine wp_val (.bool false) ?_ (hK _ _ (Kept.refl _) rfl)
              clear hl hK
              generalize a.eval = ρ at *
              simp [execOp, go_sem, h57]
            refine AllSteps.cons (Step.move _ rfl rfl fun a w' hl => let ⟨_, _, _, h⟩ := hl.dep 2 58 rfl rfl; h) ?_
            refine AllSteps.cons (Step.yes 3 false 59 rfl rfl rfl (fun _ _ h => h) fun a w' K hl hK => ?_) ?_
            · have h4 : a.eval (.tmp 4) = (.pointer (some ⟨w1.heap.size, 0, none⟩) : Value) := hl.old 4 rfl
              exact wp_load_ino rfl (HR.out.kept hl.kept (HR.out.lt (by rw [HDL.out]; decide))) HDL.out h4 (hK _ _ (Kept.refl _) rfl)
            refine AllSteps.cons (Step.yes 3 false 59 rfl rfl rfl (fun _ _ h => h) fun a w' K hl hK => ?_) ?_
            · obtain ⟨_, _, _, h60⟩ := hl.dep 4 60 rfl rfl
              replace h60 : a.eval (.tmp 60) = _ := h60
              refine wp_call rfl Try.func17 rfl rfl #[.agg (ints D)] (by simp [h60]) ?_
              refine (HP.out w').mono ?_
              rintro e w7 ⟨A7, c7, rfl, hs7, hb7⟩
              exact ⟨_, rfl, hK _ _ hb7 ⟨A7, c7, rfl, hs7⟩⟩
            refine AllSteps.cons (Step.yes 3 false 59 rfl rfl rfl (fun _ _ h => h) fun a w' K hl hK => ?_) ?_
            · obtain ⟨_, w1, hk1, A6, c6, h61, hs6⟩ := hl.dep 5 61 rfl rfl
              exact wp_conv rfl Try.underlying22 Try.underlying5 Try.underlying9 h61 (hs6.kept (Nat.le_refl _) hk1) (hK _ _ (Kept.refl _) rfl)
            refine AllSteps.cons (Step.yes 3 false 59 rfl rfl rfl (fun _ _ h => h) fun a w' K hl hK => ?_) ?_
            · have h0 : a.eval (.tmp 0) = (.slice A l.length c : Value) := hl.old 0 rfl
              exact wp_val (a.eval (.tmp 0)) rfl (hK _ _ (Kept.refl _) h0)
            refine AllSteps.cons (Step.yes 3 false 59 rfl rfl rfl (fun _ _ h => h) fun a w' K hl hK => ?_) ?_
            · obtain ⟨_, _, _, h63⟩ := hl.dep 7 63 rfl rfl
              replace h63 : a.eval (.tmp 63) = _ := h63
              exact wp_conv rfl Try.underlying22 Try.underlying5 Try.underlying9 h63 (HS.out.on (Nat.le_refl _) (HB.out.trans (Below.mono hl.kept HB.out.size))) (hK _ _ (Kept.refl _) rfl)
            refine AllSteps.cons (Step.yes 3 false 59 rfl rfl rfl (fun _ _ h => h) fun a w' K hl hK => ?_) ?_
            · obtain ⟨_, _, _, h62⟩ := hl.dep 6 62 rfl rfl
              replace h62 : a.eval (.tmp 62) = _ := h62
              obtain ⟨_, _, _, h64⟩ := hl.dep 8 64 rfl rfl
              replace h64 : a.eval (.tmp 64) = _ := h64
              exact wp_neq_str rfl h62 h64 _ HSN.out (hK _ _ (Kept.refl _) rfl)
            refine AllSteps.cons (Step.plain rfl fun a w' K hl hK => ?_) ?_
            · obtain ⟨_, _, _, h59⟩ := hl.dep 3 59 rfl rfl
              replace h59 : a.eval (.tmp 59) = _ := h59
              obtain ⟨_, _, _, h65⟩ := hl.dep 9 65 rfl rfl
              replace h65 : a.eval (.tmp 65) = _ := h65
              exact wp_pick rfl false h59 (hK _ _ (Kept.refl _) h65)
            exact AllSteps.nil
          · intro f w6 hk6 hf
            obtain ⟨_, _, h66⟩ := hf 66 rfl rfl
            replace h66 : f 66 = .bool false := h66
            simp only [Exit.then, fill, dsts, List.filterMap_cons, List.filterMap_nil, List.foldl_cons, List.foldl_nil, Act.put, h66, List.setIfInBounds_toArray, List.set_cons_succ, List.set_cons_zero]
            clear hf h66
            go_wp2_with (first
              | ((with_reducible show wpList _ _ _ (⟨some 67, _, _, _, _, _⟩ :: _) _ _); refine wpList_build_ino rfl rfl ?_)
              | ((with_reducible show wpList _ _ _ (⟨some 68, _, _, _, _, _⟩ :: _) _ _); refine wpList_load_ino rfl _ rfl (HR.out.below hk6 (HR.out.lt (by rw [HDL.out]; decide))) HDL.out rfl ?_)
              | ((with_reducible show wpList _ _ _ (⟨none, _, _, _, _, _⟩ :: _) _ _); refine wpList_store_ino rfl _ _ rfl (HZ.out.below hk6 (HZ.out.lt (by decide))) zIno_len HDL.out rfl rfl ?_; intro w7 hr7 ho7))
            (try simp only [Exit.inBlock, Exit.then])
            refine bodyPost_ret (results_ino rfl hr7 HDL.out _ rfl) rfl ?_
            exact HFIN.out _ (ho7.below (HB.out.trans (Below.mono hk6 HB.out.size)) (Nat.le_refl _))
        · have HFIN := Lib.hid (HFN.out (hi2 hm))
          have HSN : Hid (((str M).toList != (str l).toList) = true) := by show _ = _; rw [str_toList, str_toList]; simp [hm]
          clear hck hi1 hi2 hi3 hput hchk hm
          go_wp2_with fail
          refine wp_region_rely (by kernel_rfl) (fun d u w' => match d with
            | 56 => u = (.agg (ints D) : Value)
            | 57 => u = (.bool true : Value)
            | 58 => u = (.bool false : Value)
            | 59 => u = (.bool false : Value)
            | 60 => u = (.agg (ints D) : Value)
            | 61 => ∃ A c, u = .slice A (M : List UInt8).length c ∧ Sl w' w'.heap.size 1 A M.length (M.map bv)
            | 62 => u = (.string (str (M)) : Value)
            | 63 => u = (.slice A l.length c : Value)
            | 64 => u = (.string (str (l)) : Value)
            | 65 => u = (.bool true : Value)
            | 66 => u = (.bool true : Value)
            | _ => True) 69 rfl (by decide +kernel) [66] ?_ ?_
          · refine AllSteps.cons (Step.plain rfl fun a w' K hl hK => ?_) ?_
            · have h4 : a.eval (.tmp 4) = (.pointer (some ⟨w1.heap.size, 0, none⟩) : Value) := hl.old 4 rfl
              exact wp_load_ino rfl (HR.out.kept hl.kept (HR.out.lt (by rw [HDL.out]; decide))) HDL.out h4 (hK _ _ (Kept.refl _) rfl)
            refine AllSteps.cons (Step.plain rfl fun a w' K hl hK => ?_) ?_
            · obtain ⟨_, _, _, h56⟩ := hl.dep 0 56 rfl rfl
              replace h56 : a.eval (.tmp 56) = _ := h56
              refine wp_call rfl Try.func15 rfl rfl #[.agg (ints D)] (by simp [h56]) ?_
              refine (HCK.out w').mono ?_
              rintro e w7 ⟨rfl, hb7⟩
              exact ⟨_, rfl, hK _ _ hb7 rfl⟩
            refine AllSteps.cons (Step.plain rfl fun a w' K hl hK => ?_) ?_
            · obtain ⟨_, _, _, h57⟩ := hl.dep 1 57 rfl rfl
              replace h57 : a.eval (.tmp 57) = _ := h57
              refine wp_val (.bool false) ?_ (hK _ _ (Kept.refl _) rfl)
              clear hl hK
              generalize a.eval = ρ at *
              simp [execOp, go_sem, h57]
            refine AllSteps.cons (Step.move _ rfl rfl fun a w' hl => let ⟨_, _, _, h⟩ := hl.dep 2 58 rfl rfl; h) ?_
            refine AllSteps.cons (Step.yes 3 false 59 rfl rfl rfl (fun _ _ h => h) fun a w' K hl hK => ?_) ?_
            · have h4 : a.eval (.tmp 4) = (.pointer (some ⟨w1.heap.size, 0, none⟩) : Value) := hl.old 4 rfl
              exact wp_load_ino rfl (HR.out.kept hl.kept (HR.out.lt (by rw [HDL.out]; decide))) HDL.out h4 (hK _ _ (Kept.refl _) rfl)
            refine AllSteps.cons (Step.yes 3 false 59 rfl rfl rfl (fun _ _ h => h) fun a w' K hl hK => ?_) ?_
            · obtain ⟨_, _, _, h60⟩ := hl.dep 4 60 rfl rfl
              replace h60 : a.eval (.tmp 60) = _ := h60
              refine wp_call rfl Try.func17 rfl rfl #[.agg (ints D)] (by simp [h60]) ?_
              refine (HP.out w').mono ?_
              rintro e w7 ⟨A7, c7, rfl, hs7, hb7⟩
              exact ⟨_, rfl, hK _ _ hb7 ⟨A7, c7, rfl, hs7⟩⟩
            refine AllSteps.cons (Step.yes 3 false 59 rfl rfl rfl (fun _ _ h => h) fun a w' K hl hK => ?_) ?_
            · obtain ⟨_, w1, hk1, A6, c6, h61, hs6⟩ := hl.dep 5 61 rfl rfl
              exact wp_conv rfl Try.underlying22 Try.underlying5 Try.underlying9 h61 (hs6.kept (Nat.le_refl _) hk1) (hK _ _ (Kept.refl _) rfl)
            refine AllSteps.cons (Step.yes 3 false 59 rfl rfl rfl (fun _ _ h => h) fun a w' K hl hK => ?_) ?_
            · have h0 : a.eval (.tmp 0) = (.slice A l.length c : Value) := hl.old 0 rfl
              exact wp_val (a.eval (.tmp 0)) rfl (hK _ _ (Kept.refl _) h0)
            refine AllSteps.cons (Step.yes 3 false 59 rfl rfl rfl (fun _ _ h => h) fun a w' K hl hK => ?_) ?_
            · obtain ⟨_, _, _, h63⟩ := hl.dep 7 63 rfl rfl
              replace h63 : a.eval (.tmp 63) = _ := h63
              exact wp_conv rfl Try.underlying22 Try.underlying5 Try.underlying9 h63 (HS.out.on (Nat.le_refl _) (HB.out.trans (Below.mono hl.kept HB.out.size))) (hK _ _ (Kept.refl _) rfl)
            refine AllSteps.cons (Step.yes 3 false 59 rfl rfl rfl (fun _ _ h => h) fun a w' K hl hK => ?_) ?_
            · obtain ⟨_, _, _, h62⟩ := hl.dep 6 62 rfl rfl
              replace h62 : a.eval (.tmp 62) = _ := h62
              obtain ⟨_, _, _, h64⟩ := hl.dep 8 64 rfl rfl
              replace h64 : a.eval (.tmp 64) = _ := h64
              exact wp_neq_str rfl h62 h64 _ HSN.out (hK _ _ (Kept.refl _) rfl)
            refine AllSteps.cons (Step.plain rfl fun a w' K hl hK => ?_) ?_
            · obtain ⟨_, _, _, h59⟩ := hl.dep 3 59 rfl rfl
              replace h59 : a.eval (.tmp 59) = _ := h59
              obtain ⟨_, _, _, h65⟩ := hl.dep 9 65 rfl rfl
              replace h65 : a.eval (.tmp 65) = _ := h65
              exact wp_pick rfl false h59 (hK _ _ (Kept.refl _) h65)
            exact AllSteps.nil
          · intro f w6 hk6 hf
            obtain ⟨_, _, h66⟩ := hf 66 rfl rfl
            replace h66 : f 66 = .bool true := h66
            simp only [Exit.then, fill, dsts, List.filterMap_cons, List.filterMap_nil, List.foldl_cons, List.foldl_nil, Act.put, h66, List.setIfInBounds_toArray, List.set_cons_succ, List.set_cons_zero]
            clear hf h66
            go_wp2_with (first
              | ((with_reducible show wpList _ _ _ (⟨some 67, _, _, _, _, _⟩ :: _) _ _); refine wpList_build_ino rfl rfl ?_)
              | ((with_reducible show wpList _ _ _ (⟨some 68, _, _, _, _, _⟩ :: _) _ _); refine wpList_load_ino rfl _ rfl (HR.out.below hk6 (HR.out.lt (by rw [HDL.out]; decide))) HDL.out rfl ?_)
              | ((with_reducible show wpList _ _ _ (⟨none, _, _, _, _, _⟩ :: _) _ _); refine wpList_store_ino rfl _ _ rfl (HZ.out.below hk6 (HZ.out.lt (by decide))) zIno_len zIno_len rfl rfl ?_; intro w7 hr7 ho7))
            (try simp only [Exit.inBlock, Exit.then])
            refine bodyPost_ret (results_ino rfl hr7 zIno_len _ rfl) rfl ?_
            exact HFIN.out _ (ho7.below (HB.out.trans (Below.mono hk6 HB.out.size)) (Nat.le_refl _))

theorem riget_any (A : Option Addr) (l : List UInt8) (c : Nat) (w : World) (hl : l.length ≤ 140737488355328) (hs : Sl w w.heap.size 1 A l.length (l.map bv)) (hc : l.length ≤ c) (hc2 : c ≤ maxLen) :
    Calls Try.prog 10 #[.slice A l.length c] w (GetR w l) := by
  by_cases hlen : l.length = 128
  · exact riget_long A l c w hlen hs hc hc2
  · exact riget_short A l c w hlen hl
end Go.Proofs.Ytbhpkknimjmpjaa.In
