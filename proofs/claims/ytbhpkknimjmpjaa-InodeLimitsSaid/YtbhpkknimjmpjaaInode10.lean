/-
  inode.Get of any bytes: the walk.
-/
import Derived.Test.YtbhpkknimjmpjaaInode9
namespace Go.Proofs.Ytbhpkknimjmpjaa.In
open Go.RowKit Wd Wi
set_option linter.unusedVariables false
attribute [local go_sem] str_toList str_append str_size

theorem getR_no {w w' : World} {l : List UInt8} (h : isIno l = false) (hb : Below w.heap.size w w') : GetR w l (.returned (.tuple #[.agg (ints zIno), .bool false])) w' := by
  unfold GetR getV
  rw [h]
  exact ⟨rfl, hb⟩
theorem getR_yes {w w' : World} {l : List UInt8} (h : isIno l = true) (hb : Below w.heap.size w w') : GetR w l (.returned (.tuple #[.agg (ints (dec l)), .bool true])) w' := by
  unfold GetR getV
  rw [h]
  exact ⟨rfl, hb⟩
set_option maxRecDepth 100000 in
set_option maxHeartbeats 800000 in
theorem iget_long (A : Option Addr) (l : List UInt8) (c : Nat) (w : World) (hlen : l.length = 128) (hs : Sl w w.heap.size 1 A l.length (l.map bv)) (hc : l.length ≤ c) (hc2 : c ≤ maxLen) :
    Calls Try.prog 9 #[.slice A l.length c] w (GetR w l) := by
  have hne : ((l.length : Int) != 128) = false := by simp; omega
  obtain ⟨g, hg⟩ : ∃ g : Int → Int → Int, g = fun a k => ((leN (seg l a.toNat k.toNat) : Nat) : Int) := ⟨_, rfl⟩
  have hget : ∀ (a k : Int), 0 ≤ a → 1 ≤ k → k ≤ 7 → a + k ≤ 128 → ∀ w', Below w.heap.size w w' → Calls Try.prog 18 #[.slice A l.length c, .int .i64 a, .int .i64 k] w' fun e w'' => e = .returned (.tuple #[.int .i64 (g a k), .bool true]) ∧ w' = w'' :=
    fun a k h1 h2 h3 h4 w' hb => by
      rw [hg]
      exact get_yes A l c a k w' (hs.on (Nat.le_refl _) hb) hc hc2 h1 h2 h3 (by omega)
  have hdec : dec l = g 0 1 :: g 1 2 :: g 3 2 :: g 5 3 :: g 8 3 :: decP l := by rw [hg]; rfl
  have hdat : ∀ k : Nat, k < 32 → (dec l)[5 + k]? = some (g (11 + 2 * (k : Int)) 2) := fun k hk => by
    rw [dec_at l k hk, hg]
    show some ((leN (seg l (11 + 2 * k) 2) : Nat) : Int) = some ((leN (seg l (11 + 2 * (k : Int)).toNat 2) : Nat) : Int)
    rw [show (11 + 2 * (k : Int)).toNat = 11 + 2 * k by omega]
  have hdl := dec_len l
  have HS := Lib.hid hs
  have HLEN := Lib.hid hlen
  have HDEC := Lib.hid hdec
  have HGET := Lib.hid hget
  have HDAT := Lib.hid hdat
  have HDL := Lib.hid hdl
  have HC := Lib.hid (And.intro hc hc2)
  clear hs hlen hdec hget hc hc2 hg hdat hdl
  go_enter Try.func9, Try.ntmps9
  go_wp2_with (first
    | ((with_reducible show wpList _ _ _ (⟨some 2, _, _, _, _, _⟩ :: _) _ _); refine wpList_alloc_ino rfl rfl ?_; intro w1 hr1 hb1 hlt1)
    | ((with_reducible show wpList _ _ _ (⟨some 4, _, _, _, _, _⟩ :: _) _ _); refine wpList_alloc_ino rfl rfl ?_; intro w2 hr2 hb2 hlt2; have HB : Hid (Below w.heap.size w w2) := hb1.trans (hb2.mono hb1.size); have HZ : Hid (IRow w2 w.heap.size zIno) := hr1.below hb2 hlt1; have HL : Hid (zIno.length = 37) := zIno_len; have HLT : Hid (w.heap.size < w1.heap.size) := hlt1; clear hb2 hlt2 hr1 hb1 hlt1)
    | (go_at_call 18; refine (HGET.out _ _ (by omega) (by omega) (by omega) (by omega) _ HB.out).mono ?_; rintro e w3 ⟨rfl, rfl⟩)
    | ((with_reducible show wpList _ _ _ (⟨none, _, _, _, _, _⟩ :: _) _ _); refine wpList_store_num rfl _ _ _ rfl Try.underlying3 (by kernel_rfl) hr2 HL.out _ _ (by decide) rfl rfl ?_; clear hr2; intro w4 hr2 ho4 hl4; replace HB : Hid (Below w.heap.size w w4) := ho4.below HB.out (Nat.le_of_lt HLT.out); replace HZ : Hid (IRow w4 w.heap.size zIno) := HZ.out.only ho4 (Nat.ne_of_lt HLT.out); replace HL := Lib.hid hl4; clear ho4 hl4))
  go_loopw [42] (fun j wr => ∃ k : Nat, k ≤ 32 ∧ j = .int .i64 (k : Int) ∧ ∃ xs : List Int, xs.length = 37 ∧ xs.take (5 + k) = (dec l).take (5 + k) ∧ IRow wr w1.heap.size xs ∧ IRow wr w.heap.size zIno ∧ Below w.heap.size w wr) (fun j _ => 32 - (intOf j).toNat)
  case atStart => exact ⟨0, by omega, rfl, _, HL.out, by rw [HDEC.out]; rfl, hr2, HZ.out, HB.out⟩
  case round =>
    obtain ⟨k, hk, rfl, xs, hl, ht, hr, hz, hb⟩ := hrel
    have HL := Lib.hid hl
    have HT := Lib.hid ht
    have HR := Lib.hid hr
    have HZ := Lib.hid hz
    have HB := Lib.hid hb
    clear hl ht hr hz hb
    by_cases hlt : k < 32
    · have hltI : (k : Int) < 32 := by omega
      go_wp2_with (first
        | (go_at_call 18; refine (HGET.out _ _ (by omega) (by omega) (by omega) (by omega) _ HB.out).mono ?_; rintro e w3 ⟨rfl, rfl⟩)
        | ((with_reducible show wpList _ _ _ (⟨none, _, _, _, _, _⟩ :: _) _ _); refine wpList_store_num rfl _ _ _ rfl Try.underlying3 (by kernel_rfl) HR.out HL.out _ _ (show (5 + k : Nat) < 37 by omega) rfl rfl ?_; intro w5 hr5 ho5 hl5))
      go_roundw
      case measure => simp [intOf]; omega
      case rel =>
        exact ⟨k + 1, by omega, by simp, _, hl5, take_set_next HT.out (Nat.lt_of_lt_of_eq (show (5 + k : Nat) < 37 by omega) HL.out.symm) (HDAT.out k hlt), hr5, HZ.out.only ho5 (Nat.ne_of_lt HLT.out), ho5.below HB.out (Nat.le_of_lt HLT.out)⟩
    · have hge : (32 : Int) ≤ (k : Int) := by omega
      have hxs : xs = dec l := by
        have h := HT.out
        rw [List.take_of_length_le (by rw [HL.out]; omega), List.take_of_length_le (by rw [HDL.out]; omega)] at h
        exact h
      clear HT HL HDAT HDEC HGET
      subst hxs
      cases hchk : chkL (dec l)
      · have hno : isIno l = false := by simp [isIno, hchk]
        have HP := Lib.hid (fun w' => iputL_no HDL.out hchk w')
        have HNO := Lib.hid hno
        clear hno hchk
        go_wp2_with (first
          | ((with_reducible show wpList _ _ _ (⟨some 58, _, _, _, _, _⟩ :: _) _ _); refine wpList_load_ino rfl _ rfl HR.out HDL.out rfl ?_)
          | (go_at_call 12; refine (HP.out _).mono ?_; rintro e w5 ⟨rfl, hb5⟩)
          | ((with_reducible show wpList _ _ _ (⟨some 71, _, _, _, _, _⟩ :: _) _ _); refine wpList_build_ino rfl rfl ?_)
          | ((with_reducible show wpList _ _ _ (⟨none, _, _, _, _, _⟩ :: _) _ _); refine wpList_store_ino rfl _ _ rfl (HZ.out.below hb5 (HZ.out.lt (by decide))) zIno_len zIno_len rfl rfl ?_; intro w6 hr6 ho6))
        (try simp only [Exit.inBlock, Exit.then])
        refine bodyPost_ret (results_ino rfl hr6 zIno_len _ rfl) rfl ?_
        exact getR_no HNO.out (ho6.below (HB.out.trans (hb5.mono HB.out.size)) (Nat.le_refl _))
      · have HP := Lib.hid (fun w' => iputL_yes HDL.out hchk w')
        by_cases hm : blkL (dec l) = l
        · have hyes : isIno l = true := by simp [isIno, hchk, hm, HLEN.out]
          have HNO := Lib.hid hyes
          rw [hm] at HP
          clear hyes hchk hm
          go_wp2_with (first
            | ((with_reducible show wpList _ _ _ (⟨some 58, _, _, _, _, _⟩ :: _) _ _); refine wpList_load_ino rfl _ rfl HR.out HDL.out rfl ?_)
            | (go_at_call 12; refine (HP.out _).mono ?_; rintro e w5 ⟨A5, c5, rfl, hs5, _, _, hb5⟩; have HS5 := Lib.hid hs5; have HB5 := Lib.hid hb5; clear hs5 hb5)
            | ((with_reducible show wpList _ _ _ (⟨some 66, _, _, _, _, _⟩ :: _) _ _); refine wpList_convert_sl rfl _ _ 5 _ rfl Try.underlying22 Try.underlying5 Try.underlying9 _ _ _ l rfl HS5.out rfl ?_)
            | ((with_reducible show wpList _ _ _ (⟨some 68, _, _, _, _, _⟩ :: _) _ _); refine wpList_convert_sl rfl _ _ 5 _ rfl Try.underlying22 Try.underlying5 Try.underlying9 _ _ _ l rfl (HS.out.on (Nat.le_refl _) (HB.out.trans (HB5.out.mono HB.out.size))) rfl ?_)
            | ((with_reducible show wpList _ _ _ (⟨some 72, _, _, _, _, _⟩ :: _) _ _); refine wpList_load_ino rfl _ rfl (HR.out.below HB5.out (HR.out.lt (by rw [HDL.out]; decide))) HDL.out rfl ?_)
            | ((with_reducible show wpList _ _ _ (⟨none, _, _, _, _, _⟩ :: _) _ _); refine wpList_store_ino rfl _ _ rfl (HZ.out.below HB5.out (HZ.out.lt (by decide))) zIno_len HDL.out rfl rfl ?_; intro w6 hr6 ho6))
          (try simp only [Exit.inBlock, Exit.then])
          refine bodyPost_ret (results_ino rfl hr6 HDL.out _ rfl) rfl ?_
          exact getR_yes HNO.out (ho6.below (HB.out.trans (HB5.out.mono HB.out.size)) (Nat.le_refl _))
        · have hno : isIno l = false := by simp [isIno, hm]
          have HNO := Lib.hid hno
          have hsne : (blkL (dec l) == l) = false := by simp [hm]
          clear hno hchk hm
          generalize blkL (dec l) = M at *
          go_wp2_with (first
            | ((with_reducible show wpList _ _ _ (⟨some 58, _, _, _, _, _⟩ :: _) _ _); refine wpList_load_ino rfl _ rfl HR.out HDL.out rfl ?_)
            | (go_at_call 12; refine (HP.out _).mono ?_; rintro e w5 ⟨A5, c5, rfl, hs5, _, _, hb5⟩; have HS5 := Lib.hid hs5; have HB5 := Lib.hid hb5; clear hs5 hb5)
            | ((with_reducible show wpList _ _ _ (⟨some 66, _, _, _, _, _⟩ :: _) _ _); refine wpList_convert_sl rfl _ _ 5 _ rfl Try.underlying22 Try.underlying5 Try.underlying9 _ _ _ M rfl HS5.out rfl ?_)
            | ((with_reducible show wpList _ _ _ (⟨some 68, _, _, _, _, _⟩ :: _) _ _); refine wpList_convert_sl rfl _ _ 5 _ rfl Try.underlying22 Try.underlying5 Try.underlying9 _ _ _ l rfl (HS.out.on (Nat.le_refl _) (HB.out.trans (HB5.out.mono HB.out.size))) rfl ?_)
            | ((with_reducible show wpList _ _ _ (⟨some 71, _, _, _, _, _⟩ :: _) _ _); refine wpList_build_ino rfl rfl ?_)
            | ((with_reducible show wpList _ _ _ (⟨none, _, _, _, _, _⟩ :: _) _ _); refine wpList_store_ino rfl _ _ rfl (HZ.out.below HB5.out (HZ.out.lt (by decide))) zIno_len zIno_len rfl rfl ?_; intro w6 hr6 ho6))
          (try simp only [Exit.inBlock, Exit.then])
          refine bodyPost_ret (results_ino rfl hr6 zIno_len _ rfl) rfl ?_
          exact getR_no HNO.out (ho6.below (HB.out.trans (HB5.out.mono HB.out.size)) (Nat.le_refl _))

theorem iget_any (A : Option Addr) (l : List UInt8) (c : Nat) (w : World) (hl : l.length ≤ 140737488355328) (hs : Sl w w.heap.size 1 A l.length (l.map bv)) (hc : l.length ≤ c) (hc2 : c ≤ maxLen) :
    Calls Try.prog 9 #[.slice A l.length c] w (GetR w l) := by
  by_cases hlen : l.length = 128
  · exact iget_long A l c w hlen hs hc hc2
  · exact iget_short A l c w hlen hl
end Go.Proofs.Ytbhpkknimjmpjaa.In
