/-
  dir: Put.
-/
import Derived.Test.YtifbbbphoponcaaDir6
import Derived.Test.YtifbbbphoponcaaWire2
namespace Go.Proofs.Ytifbbbphoponcaa.Dr
open Go.RowKit Wd Wi
set_option linter.unusedVariables false

/-- an entry's bytes -/
def entB (x : En) : List UInt8 := txt x.1 20 ++ putB x.2 1 ++ List.replicate 10 0
def entsB (l : List En) : List UInt8 := l.flatMap entB
def putL (l : List En) : List UInt8 := entsB l ++ List.replicate (128 * ((l.length + 3) / 4) - 32 * l.length) 0
theorem entB_len {x : En} (h : x.1.size ≤ 20) : (entB x).length = 32 := by
  unfold entB
  rw [List.length_append, List.length_append, txt_len _ _ h, putB_len, List.length_replicate]
theorem entsB_len : ∀ {l : List En}, (∀ x ∈ l, x.1.size ≤ 20) → (entsB l).length = 32 * l.length
  | [], _ => rfl
  | x :: l, h => by
    have ih := entsB_len (l := l) fun y hy => h y (by simp [hy])
    unfold entsB at ih ⊢
    rw [List.flatMap_cons, List.length_append, entB_len (h x (by simp)), ih, List.length_cons]
    omega
theorem entsB_succ {l : List En} {k : Nat} {x : En} (h : l[k]? = some x) : entsB (l.take (k + 1)) = entsB (l.take k) ++ entB x := by
  unfold entsB
  rw [List.take_add_one, h, List.flatMap_append]
  simp
theorem name_size {s : ByteArray} (h : nameB s = true) : 1 ≤ s.size ∧ s.size ≤ 20 := by
  unfold nameB at h
  simp only [Bool.and_eq_true, decide_eq_true_eq] at h
  exact ⟨h.1.1.1.1, h.1.1.1.2⟩
theorem may_size {x : En} (h : mayB x = true) : 1 ≤ x.1.size ∧ x.1.size ≤ 20 ∧ 1 ≤ x.2 ∧ x.2 < 48 := by
  unfold mayB at h
  simp only [Bool.and_eq_true, decide_eq_true_eq] at h
  have := name_size h.1.1
  exact ⟨this.1, this.2, h.1.2, h.2⟩
theorem check_parts {l : List En} (h : checkB l = true) : okTo l l.length = true ∧ l.length ≤ 64 := by
  unfold checkB at h
  simpa using h
section
variable (A : Option Addr) (l : List En) (c : Nat) (w : World)
theorem put_no (hs : Sl w w.heap.size 2 A l.length (ecs l)) (hg : ∀ x ∈ l, goodE x) (hk : l.length ≤ 17592186044416) (h : checkB l = false) :
    Calls Try.prog 11 #[.slice A l.length c] w fun e w' => e = .returned (.tuple #[.slice none 0 0, .bool false]) ∧ Below w.heap.size w w' := by
  have HC := Lib.hid (check_any A l c w hs hg hk)
  rw [h] at HC
  clear hs hg h
  go_enter Try.func11, Try.ntmps11
  go_wp2_with fail
  refine HC.out.mono ?_
  rintro e w1 ⟨rfl, hb1⟩
  go_wp2_with fail
  go_ret2
  exact ⟨rfl, hb1⟩
set_option maxHeartbeats 1600000 in
theorem put_yes (hs : Sl w w.heap.size 2 A l.length (ecs l)) (hg : ∀ x ∈ l, goodE x) (h : checkB l = true) :
    Calls Try.prog 11 #[.slice A l.length c] w (Res2 w (putL l) true) := by
  obtain ⟨hok, hlen⟩ := check_parts h
  have hm := okTo_may hok
  have HC := Lib.hid (check_any A l c w hs hg (by omega))
  rw [h] at HC
  have HS := Lib.hid hs
  have HG := Lib.hid hg
  have HM := Lib.hid hm
  have HE : Hid (∀ k, k ≤ l.length → (entsB (l.take k)).length = 32 * k) := Lib.hid fun k hk => by
    rw [entsB_len fun x hx => (may_size (hm x (List.mem_of_mem_take hx))).2.1, List.length_take]
    omega
  clear hs hg h hok hm
  go_enter Try.func11, Try.ntmps11
  go_wp2_with fail
  refine HC.out.mono ?_
  rintro e w1 ⟨rfl, hb1⟩
  have HB1 := Lib.hid hb1
  clear hb1
  go_wp2_with fail
  go_loopw [4, 13] (fun b i wr => ∃ (k : Nat) (A' : Option Addr) (c' : Nat), k ≤ l.length ∧ i = .int .i64 (k : Int) ∧ b = .slice A' (entsB (l.take k)).length c' ∧ Sl wr wr.heap.size 1 A' (entsB (l.take k)).length ((entsB (l.take k)).map bv) ∧
    (entsB (l.take k)).length ≤ c' ∧ Below w.heap.size w wr) (fun _ i _ => l.length - (intOf i).toNat)
  case atStart => exact ⟨0, none, 0, by omega, rfl, rfl, Sl.nil _, by simp [entsB], HB1.out⟩
  case round =>
    obtain ⟨k, A', c', hk2, rfl, rfl, hsb, hcb, hbel⟩ := hrel
    have HB := Lib.hid hbel
    have HSB := Lib.hid hsb
    have hbl1 : (entsB (l.take k)).length ≤ 32 * k := Nat.le_of_eq (HE.out k hk2)
    have hbl2 : 32 * k ≤ (entsB (l.take k)).length := Nat.le_of_eq (HE.out k hk2).symm
    clear hbel hsb
    by_cases hlt : k < l.length
    · have hltI : (k : Int) < (l.length : Int) := by omega
      have hk0 : (0 : Int) ≤ (k : Int) := by omega
      obtain ⟨x, hx⟩ : ∃ x, l[k]? = some x := ⟨_, List.getElem?_eq_getElem hlt⟩
      have hxm := List.mem_of_getElem? hx
      obtain ⟨x1, x2, x3, x4⟩ := may_size (HM.out x hxm)
      have hA : ∃ b off, A = some ⟨b, off, none⟩ := by
        obtain ⟨b, off, e, _⟩ := HS.out.at (by omega) (by decide)
        exact ⟨b, off, e⟩
      obtain ⟨b, off, rfl⟩ := hA
      obtain ⟨hrx0, hb0⟩ := ent_range HS.out hx
      have hrx := range_keep hrx0 (HB.out.block b hb0)
      have HN := Lib.hid (entsB_succ hx)
      have hx1I : (x.1.size : Int) ≤ 20 := by omega
      clear hrx0 hx hxm
      generalize entsB (l.take k) = bl at *
      go_wp2_with (first
        | ((with_reducible show wpList _ _ _ (⟨some 17, _, _, _, _, _⟩ :: _) _ _); refine wpList_load_ent rfl _ rfl rfl hrx ?_))
      refine (text_yes' A' bl c' x.1 20 _ (HSB.out.on (Nat.le_refl _) ((Below.refl _ _).alloc (Nat.le_refl _) _)) hcb (by omega) (by decide) (by decide) hx1I).mono ?_
      intro e w2 hr2
      obtain ⟨A2, c2, rfl, hs2, hc2, _, hb2⟩ := hr2.res2
      have hcell : w2.cell? ⟨wr.heap.size, 1, none⟩ = some (.int .i64 x.2) := (Below.cell hb2 (p := ⟨wr.heap.size, 1, none⟩) (by simp)).trans (range_ino (range_new wr x _))
      have HB2 := Lib.hid ((HB.out.alloc HB.out.size _).trans (Below.mono hb2 (by have := HB.out.size; simp; omega)))
      have HS2 := Lib.hid hs2
      have hl2 : (bl ++ txt x.1 (20 : Int).toNat).length = 32 * k + 21 := by rw [List.length_append]; have := txt_len x.1 20 x2; simp at this ⊢; omega
      have hl2a := Nat.le_of_eq hl2
      have hl2b := Nat.le_of_eq hl2.symm
      clear hl2
      obtain ⟨b2, hb2e⟩ : ∃ b2, b2 = bl ++ txt x.1 (20 : Int).toNat := ⟨_, rfl⟩
      rw [← hb2e] at hl2a hl2b HS2 hc2
      rw [← hb2e]
      have HE2 := Lib.hid hb2e
      clear hb2e
      clear hr2 hs2 hb2
      go_wp2_with fail
      refine (put_any A2 b2 c2 x.2 1 w2 HS2.out hc2 (by omega) (by omega) (by omega) (by decide) (by decide)).mono ?_
      rintro e w3 ⟨A3, c3, rfl, hs3, hc3, _, hb3⟩
      have hl3a : (b2 ++ putB x.2 (min (1 : Int) 8).toNat).length ≤ 32 * k + 22 := by rw [List.length_append, putB_len]; have : (min (1 : Int) 8).toNat = 1 := by decide
                                                                                      omega
      have hl3b : 32 * k + 22 ≤ (b2 ++ putB x.2 (min (1 : Int) 8).toNat).length := by rw [List.length_append, putB_len]; have : (min (1 : Int) 8).toNat = 1 := by decide
                                                                                      omega
      have HS3 := Lib.hid hs3
      have HB3 := Lib.hid (HB2.out.trans (Below.mono hb3 HB2.out.size))
      obtain ⟨b3, hb3e⟩ : ∃ b3, b3 = b2 ++ putB x.2 (min (1 : Int) 8).toNat := ⟨_, rfl⟩
      rw [← hb3e] at hl3a hl3b HS3 hc3
      rw [← hb3e]
      have HE3 := Lib.hid hb3e
      clear hb3e hs3 hb3
      go_wp2_with fail
      refine (pad_yes A3 b3 c3 _ w3 HS3.out hc3 (by omega) (by omega)).mono ?_
      rintro e w4 ⟨A4, c4, rfl, hs4, hc4, _, hb4⟩
      have HB4 := Lib.hid (HB3.out.trans (Below.mono hb4 HB3.out.size))
      obtain ⟨b4, hb4e⟩ : ∃ b4, b4 = b3 ++ List.replicate ((((k : Int) + 1) * 32).toNat - b3.length) 0 := ⟨_, rfl⟩
      have HE4 : Hid (b4 = entsB (l.take (k + 1))) := by
        show _ = _
        rw [hb4e, HN.out, show (((k : Int) + 1) * 32).toNat - b3.length = 10 by omega, HE3.out, HE2.out]
        unfold entB
        have e1 : (min (1 : Int) 8).toNat = 1 := by decide
        rw [e1]
        simp
      rw [← hb4e] at hs4 hc4
      rw [← hb4e]
      have HS4 := Lib.hid hs4
      have HC4 := Lib.hid hc4
      clear hb4e hs4 hb4 hc4
      go_wp2_with fail
      go_roundw
      case rel => exact ⟨k + 1, A4, c4, by omega, by go_num, by rw [HE4.out], by rw [← HE4.out]; exact HS4.out, by rw [← HE4.out]; exact HC4.out, HB4.out⟩
      case measure => simp [intOf]; omega
    · have hge : (l.length : Int) ≤ (k : Int) := by omega
      obtain rfl : k = l.length := by omega
      obtain ⟨q, hq⟩ : ∃ q, q = (l.length + 3) / 4 := ⟨_, rfl⟩
      have HQ := Lib.hid hq
      have hq1 : q * 4 ≤ l.length + 3 := by omega
      have hq2 : l.length + 3 < q * 4 + 4 := by omega
      have hqI : ((l.length : Int) + 4 - 1) / 4 = (q : Int) := by omega
      clear hq
      generalize hbe : entsB (l.take l.length) = bl at *
      have HBE := Lib.hid hbe
      clear hbe
      go_wp2_with fail
      refine (pad_yes A' bl c' _ wr HSB.out hcb (by omega) (by omega)).mono ?_
      rintro e w4 ⟨A4, c4, rfl, hs4, hc4, hm4, hb4⟩
      have HV : Hid (bl ++ List.replicate (((q : Int) * 128).toNat - bl.length) 0 = putL l) := by
        show _ = _
        unfold putL
        rw [← HBE.out, List.take_of_length_le (Nat.le_refl _), ← HQ.out]
        have := HBE.out
        rw [List.take_of_length_le (Nat.le_refl _)] at this
        rw [this]
        congr 2
        omega
      have HB4 := Lib.hid (HB.out.trans (Below.mono hb4 HB.out.size))
      rw [HV.out] at hs4 hc4
      rw [HV.out]
      have HS4 := Lib.hid hs4
      clear hs4 hb4
      go_wp2_with fail
      go_ret2
      exact ⟨A4, c4, rfl, HS4.out, hc4, hm4, HB4.out⟩
end
end Go.Proofs.Ytifbbbphoponcaa.Dr
