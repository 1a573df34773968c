/-
  chunk: Fill.
-/
import Derived.Test.YtndfkpajojbfkaaChunk3
import Derived.Test.YtndfkpajojbfkaaHas
import Derived.Test.YtndfkpajojbfkaaBy
namespace Go.Proofs.Ytndfkpajojbfkaa.Ck
open Go.RowKit Wd Is Sp Fl Ga By
set_option linter.unusedVariables false

/-- a byte of a block behind a write -/
def fillB (old d : List UInt8) (P s a : Nat) (i : Nat) : UInt8 :=
  if a ≤ P + i ∧ P + i < a + d.length then d.getD (P + i - a) 0 else if P + i < s ∧ 0 < old.length then old.getD i 0 else 0
def cur (F : Nat → UInt8) (k : Nat) : List UInt8 := (List.range 128).map fun i => if i < k then F i else 0
theorem cur_len (F : Nat → UInt8) (k : Nat) : (cur F k).length = 128 := by simp [cur]
theorem cur_zero (F : Nat → UInt8) : cur F 0 = List.replicate 128 0 := by
  apply List.ext_getElem
  · simp [cur]
  · intro i h1 h2
    simp only [cur, List.getElem_map, List.getElem_range, List.getElem_replicate]
    rw [if_neg (Nat.not_lt_zero _)]
theorem cur_set (F : Nat → UInt8) (k : Nat) (v : UInt8) (hv : v = F k) : (cur F k).set k v = cur F (k + 1) := by
  subst hv
  apply List.ext_getElem
  · simp [cur]
  · intro i h1 h2
    simp only [cur, List.getElem_set, List.getElem_map, List.getElem_range]
    by_cases h : k = i
    · subst h; simp
    · rw [if_neg h]
      by_cases h3 : i < k
      · rw [if_pos h3, if_pos (by omega)]
      · rw [if_neg h3, if_neg (by omega)]
theorem cur_same (F : Nat → UInt8) (k : Nat) (hv : F k = 0) : cur F k = cur F (k + 1) := by
  apply List.ext_getElem
  · simp [cur]
  · intro i h1 h2
    simp only [cur, List.getElem_map, List.getElem_range]
    by_cases h : i = k
    · subst h; simp [hv]
    · by_cases h3 : i < k
      · rw [if_pos h3, if_pos (by omega)]
      · rw [if_neg h3, if_neg (by omega)]
def fillL (old d : List UInt8) (P s a : Nat) : List UInt8 := cur (fillB old d P s a) 128
/-- the stretch of a write, or 0 -/
def strP (a n : Int) : Int × Int := if 1 ≤ n ∧ 0 ≤ a ∧ a ≤ 4096 ∧ n ≤ 4096 - a then (a / 128, (a + n - 1) / 128 - a / 128 + 1) else (0, 0)
theorem strP_ok (a n : Int) : SZ (strP a n) := by
  unfold strP SZ
  split
  · left; unfold St; simp only; omega
  · right; exact ⟨rfl, rfl⟩
theorem stretch_tot (a n : Int) : ∃ b, ∀ w, Calls Try.prog 12 #[.int .i64 a, .int .i64 n] w fun e w' => e = .returned (.tuple #[.complex .f64 (fz (strP a n).1) (fz (strP a n).2), .bool b]) ∧ w = w' := by
  by_cases h : 1 ≤ n ∧ 0 ≤ a ∧ a ≤ 4096 ∧ n ≤ 4096 - a
  · refine ⟨true, fun w => ?_⟩
    unfold strP
    rw [if_pos h]
    exact stretch_yes h w
  · refine ⟨false, fun w => ?_⟩
    unfold strP
    rw [if_neg h]
    have := stretch_no h w
    simp only
    rw [fz0]
    exact this
theorem has_one {p : Int × Int} (hp : SZ p) (x : Int) (B : Bool) (hB : hasB [p] x = B) (w : World) :
    Calls Try.prog 24 #[.slice (some ⟨w.heap.size, 0, none⟩) 1 1, .int .i64 x] (w.alloc (.cells #[.complex .f64 (fz p.1) (fz p.2)] 27)) fun e w' => e = .returned (.bool B) ∧ Below w.heap.size w w' := by
  subst hB
  refine (has_any (some ⟨w.heap.size, 0, none⟩) [p] 1 (fun q hq => by rw [List.mem_singleton.1 hq]; exact hp) x _ (Sl.newRow w [cv p] 27 1 rfl) (by simp)).mono ?_
  rintro e w' ⟨rfl, hb⟩
  exact ⟨rfl, ((Below.refl _ _).alloc (Nat.le_refl _) _).trans (hb.mono (by simp))⟩
def FillR (w : World) (l : List UInt8) (e : Ending) (w' : World) : Prop :=
  ∃ g, e = .returned (.tuple #[.slice (some ⟨g, 0, none⟩) 128 128, .bool true]) ∧ w'.ownsRow w.heap.size 5 1 (.slice (some ⟨g, 0, none⟩) 128 128) 128 (l.map bv) ∧ Below w.heap.size w w'
section
variable (Ao Ad : Option Addr) (old d : List UInt8) (co cd : Nat) (blk s a : Int) (w : World)
theorem fill_no (ho : Sl w w.heap.size 1 Ao old.length (old.map bv)) (hd : Sl w w.heap.size 1 Ad d.length (d.map bv)) (hod : old.length ≤ 140737488355328) (hdd : d.length ≤ 140737488355328)
    (h : ¬ (May s a d.length ∧ (old.length = 0 ∨ old.length = 128) ∧ hasB [strP a d.length] blk = true)) :
    Calls Try.prog 19 #[.slice Ao old.length co, .int .i64 blk, .int .i64 s, .int .i64 a, .slice Ad d.length cd] w fun e w' => e = .returned (.tuple #[.slice none 0 0, .bool false]) ∧ Below w.heap.size w w' := by
  obtain ⟨sb, hst⟩ := stretch_tot a d.length
  have ST := Lib.hid hst
  have HH := Lib.hid (fun B hB w => has_one (strP_ok a d.length) blk B hB w)
  clear hst
  by_cases hm : May s a d.length
  · have S1 := Lib.hid (fun w => size_yes hm w)
    by_cases hol : old.length = 0 ∨ old.length = 128
    · have hb : hasB [strP a d.length] blk = false := by
        cases hh : hasB [strP a d.length] blk
        · rfl
        · exact absurd ⟨hm, hol, hh⟩ h
      replace HH := Lib.hid (HH.out _ hb)
      clear h hm hb ho hd
      generalize sizeZ s a d.length = z at *
      generalize fz (strP a d.length).1 = fa at *
      generalize fz (strP a d.length).2 = fn at *
      rcases hol with hl | hl
      all_goals
        rw [hl]
        go_enter Try.func19, Try.ntmps19
        go_wp2_with fail
        refine (S1.out _).mono ?_
        rintro e w' ⟨rfl, rfl⟩
        go_wp2_with fail
        refine (ST.out _).mono ?_
        rintro e w' ⟨rfl, rfl⟩
        go_wp2_with fail
        refine (HH.out w).mono ?_
        rintro e w' ⟨rfl, hbel⟩
        have HB := Lib.hid hbel
        clear hbel
        go_wp2_with fail
        go_ret2
        exact ⟨rfl, HB.out⟩
    · have h0 : ((old.length : Int) != 0) = true := by rw [bne_iff_ne]; omega
      have h8 : ((old.length : Int) != 128) = true := by rw [bne_iff_ne]; omega
      clear h hm ho hd hol HH
      generalize sizeZ s a d.length = z at *
      generalize fz (strP a d.length).1 = fa at *
      generalize fz (strP a d.length).2 = fn at *
      go_enter Try.func19, Try.ntmps19
      go_wp2_with fail
      refine (S1.out _).mono ?_
      rintro e w' ⟨rfl, rfl⟩
      go_wp2_with fail
      refine (ST.out _).mono ?_
      rintro e w' ⟨rfl, rfl⟩
      go_wp2_with fail
      go_ret2
      exact ⟨rfl, Below.refl _ _⟩
  · have S1 := Lib.hid (fun w => size_no hm w)
    clear h hm ho hd HH
    generalize fz (strP a d.length).1 = fa at *
    generalize fz (strP a d.length).2 = fn at *
    go_enter Try.func19, Try.ntmps19
    go_wp2_with fail
    refine (S1.out _).mono ?_
    rintro e w' ⟨rfl, rfl⟩
    go_wp2_with fail
    refine (ST.out _).mono ?_
    rintro e w' ⟨rfl, rfl⟩
    go_wp2_with fail
    go_ret2
    exact ⟨rfl, Below.refl _ _⟩
theorem in_stretch (h : hasB [strP a d.length] blk = true) : 1 ≤ d.length ∧ 0 ≤ a ∧ a + d.length ≤ 4096 ∧ a / 128 ≤ blk ∧ blk ≤ (a + d.length - 1) / 128 := by
  unfold hasB strP at h
  rw [List.any_cons, List.any_nil, Bool.or_false] at h
  split at h
  · simp only [inP, decide_eq_true_eq] at h
    omega
  · simp only [inP, decide_eq_true_eq] at h
    omega
set_option maxRecDepth 20000 in
set_option maxHeartbeats 1600000 in
theorem fill_yes (ho : Sl w w.heap.size 1 Ao old.length (old.map bv)) (hd : Sl w w.heap.size 1 Ad d.length (d.map bv)) (hm : May s a d.length) (hol : old.length = 0 ∨ old.length = 128) (hb : hasB [strP a d.length] blk = true) :
    Calls Try.prog 19 #[.slice Ao old.length co, .int .i64 blk, .int .i64 s, .int .i64 a, .slice Ad d.length cd] w (FillR w (fillL old d (blk * 128).toNat s.toNat a.toNat)) := by
  obtain ⟨sb, hst⟩ := stretch_tot a d.length
  have ST := Lib.hid hst
  have HH := Lib.hid (fun w => has_one (strP_ok a d.length) blk true hb w)
  have hin := in_stretch d blk a hb
  have S1 := Lib.hid (fun w => size_yes hm w)
  obtain ⟨m1, m2, m3, m4, m5, m6⟩ := hm
  obtain ⟨blk, rfl⟩ := Int.eq_ofNat_of_zero_le (show 0 ≤ blk by omega)
  obtain ⟨s, rfl⟩ := Int.eq_ofNat_of_zero_le m1
  obtain ⟨a, rfl⟩ := Int.eq_ofNat_of_zero_le m3
  obtain ⟨P, hP⟩ : ∃ P, P = blk * 128 := ⟨_, rfl⟩
  have hPI : (blk : Int) * 128 = (P : Int) := by omega
  rw [hPI]
  simp only [Int.toNat_natCast]
  have hblk : blk ≤ 31 := by omega
  have hP4 : (P : Int) ≤ 4096 := by omega
  have hdl : (d.length : Int) ≤ 4096 := by omega
  have hs4 : (s : Int) ≤ 4096 := m2
  have ha4 : (a : Int) ≤ 4096 := m4
  have hP0 : (0 : Int) ≤ (P : Int) := by omega
  have ha0 : (0 : Int) ≤ (a : Int) := by omega
  have hd0 : (0 : Int) ≤ (d.length : Int) := by omega
  have hbI : (blk : Int) ≤ 31 := by omega
  have hbI0 : (0 : Int) ≤ (blk : Int) := by omega
  have HO0 := Lib.hid ho
  have HD0 := Lib.hid hd
  clear hst hin hb ho hd m1 m2 m3 m4 m5 m6 hP hblk
  generalize sizeZ (s : Int) (a : Int) (d.length : Int) = z at *
  generalize fz (strP (a : Int) (d.length : Int)).1 = fa at *
  generalize fz (strP (a : Int) (d.length : Int)).2 = fn at *
  have hol' : ((old.length : Int) != 0 && (old.length : Int) != 128) = false := by rcases hol with h | h <;> rw [h] <;> decide
  have HOL := Lib.hid hol
  obtain ⟨ol, hole⟩ : ∃ ol : Nat, ol = old.length := ⟨_, rfl⟩
  rw [← hole] at hol ⊢ hol'
  have HOE := Lib.hid hole
  clear hole hol'
  rcases hol with rfl | rfl
  all_goals
    go_enter Try.func19, Try.ntmps19
    go_wp2_with fail
    refine (S1.out _).mono ?_
    rintro e w' ⟨rfl, rfl⟩
    go_wp2_with fail
    refine (ST.out _).mono ?_
    rintro e w' ⟨rfl, rfl⟩
    go_wp2_with fail
    refine (HH.out w).mono ?_
    rintro e w1 ⟨rfl, hbel⟩
    have HB := Lib.hid hbel
    have hz1 := HB.out.size
    clear hbel
    go_wp2_with (refine wpList_make_bytes rfl _ _ rfl 128 (by decide) rfl rfl ?_; intro w2 hmk hmb hmlt)
    have HMK := Lib.hid hmk
    have HMB := Lib.hid (HB.out.trans (hmb.mono hz1))
    have hgb : w.heap.size ≤ w1.heap.size := hz1
    clear hmk hmb
    generalize w1.heap.size = g at *
    go_wp2_with fail
    go_loopw [54] (fun i wr => ∃ k : Nat, k ≤ 128 ∧ i = .int .i64 (k : Int) ∧ wr.ownsRow w.heap.size 5 1 (.slice (some ⟨g, 0, none⟩) 128 128) 128 ((cur (fillB old d P s a) k).map bv) ∧ Below w.heap.size w wr) (fun i _ => 128 - (intOf i).toNat)
    case atStart =>
      refine ⟨0, by omega, rfl, ?_, HMB.out⟩
      rw [cur_zero]
      exact own_lower HMK.out hgb
    case round =>
      obtain ⟨k, hk, rfl, hown, hbel⟩ := hrel
      have HO := Lib.hid hown
      have HBR := Lib.hid hbel
      clear hown hbel
      by_cases hlt : k < 128
      · have hltI : (k : Int) < 128 := by omega
        have hk0 : (0 : Int) ≤ (k : Int) := by omega
        by_cases h1 : a ≤ P + k
        · have h1I : (a : Int) ≤ (P : Int) + (k : Int) := by omega
          by_cases h2 : P + k < a + d.length
          · have h2I : (P : Int) + (k : Int) < (a : Int) + (d.length : Int) := by omega
            obtain ⟨j, hj⟩ : ∃ j : Nat, j = P + k - a := ⟨_, rfl⟩
            have hjI : (P : Int) + (k : Int) - (a : Int) = (j : Int) := by omega
            have hjl : j < d.length := by omega
            have hjlI : (j : Int) < (d.length : Int) := by omega
            have hj0 : (0 : Int) ≤ (j : Int) := by omega
            obtain ⟨y, hy⟩ : ∃ y, y = d.getD j 0 := ⟨_, rfl⟩
            have HV : Hid (y = fillB old d P s a k) := by
              show _ = _
              unfold fillB
              rw [if_pos ⟨h1, h2⟩, ← hj, hy]
            obtain ⟨b, off, rfl, hbb, hcell⟩ := (HD0.out.below HBR.out).at (by omega) (by decide)
            have hc1 : wr.cell? ⟨b, off + j, none⟩ = some (.int .u8 (y.toNat : Int)) := hcell j _ (by rw [bv_at d j hjl, hy, List.getD_eq_getElem?_getD, List.getElem?_eq_getElem hjl]; rfl)
            clear hcell hbb h1 h2 hj hy
            go_wp2_with ((with_reducible show wpList _ _ _ (⟨none, Op.store 5 (.tmp 81) _, _, _, _, _⟩ :: _) _ _); refine wpList_store_byte rfl _ _ rfl HO.out k (by omega) y rfl rfl ?_; intro w2 ho2 hon2)
            go_wp2_with fail
            go_roundw
            case rel => exact ⟨k + 1, by omega, by go_num, by rw [← cur_set _ _ _ HV.out]; exact ho2, hon2.below HBR.out (own_ge HO.out)⟩
            case measure => simp [intOf]; omega
          · have h2I : (a : Int) + (d.length : Int) ≤ (P : Int) + (k : Int) := by omega
            by_cases h3 : P + k < s ∧ 0 < old.length
            · first
                | (exfalso; have := HOE.out; omega)
                | skip
              all_goals
                have h3I : (P : Int) + (k : Int) < (s : Int) := by omega
                obtain ⟨y, hy⟩ : ∃ y, y = old.getD k 0 := ⟨_, rfl⟩
                have HV : Hid (y = fillB old d P s a k) := by
                  show _ = _
                  unfold fillB
                  rw [if_neg (by omega), if_pos h3, hy]
                have hkl : k < old.length := by have := HOE.out; omega
                obtain ⟨b, off, rfl, hbb, hcell⟩ := (HO0.out.below HBR.out).at (by omega) (by decide)
                have hc1 : wr.cell? ⟨b, off + k, none⟩ = some (.int .u8 (y.toNat : Int)) := hcell k _ (by rw [bv_at old k hkl, hy, List.getD_eq_getElem?_getD, List.getElem?_eq_getElem hkl]; rfl)
                clear hcell hbb h3 hy hkl h1 h2
                go_wp2_with ((with_reducible show wpList _ _ _ (⟨none, Op.store 5 (.tmp 97) _, _, _, _, _⟩ :: _) _ _); refine wpList_store_byte rfl _ _ rfl HO.out k (by omega) y rfl rfl ?_; intro w2 ho2 hon2)
                go_wp2_with fail
                go_roundw
                case rel => exact ⟨k + 1, by omega, by go_num, by rw [← cur_set _ _ _ HV.out]; exact ho2, hon2.below HBR.out (own_ge HO.out)⟩
                case measure => simp [intOf]; omega
            · have HV : Hid (fillB old d P s a k = 0) := by
                show _ = _
                unfold fillB
                rw [if_neg (by omega), if_neg h3]
              by_cases h4 : P + k < s
              · have h4I : (P : Int) + (k : Int) < (s : Int) := by omega
                first
                  | (exfalso; have := HOE.out; omega)
                  | skip
                all_goals
                  clear h3 h4 h1 h2
                  go_wp2_with fail
                  go_roundw
                  case rel => exact ⟨k + 1, by omega, by go_num, by rw [← cur_same _ _ HV.out]; exact HO.out, HBR.out⟩
                  case measure => simp [intOf]; omega
              · have h4I : (s : Int) ≤ (P : Int) + (k : Int) := by omega
                clear h3 h4 h1 h2
                go_wp2_with fail
                go_roundw
                case rel => exact ⟨k + 1, by omega, by go_num, by rw [← cur_same _ _ HV.out]; exact HO.out, HBR.out⟩
                case measure => simp [intOf]; omega
        · have h1I : (P : Int) + (k : Int) < (a : Int) := by omega
          by_cases h3 : P + k < s ∧ 0 < old.length
          · first
              | (exfalso; have := HOE.out; omega)
              | skip
            all_goals
              have h3I : (P : Int) + (k : Int) < (s : Int) := by omega
              obtain ⟨y, hy⟩ : ∃ y, y = old.getD k 0 := ⟨_, rfl⟩
              have HV : Hid (y = fillB old d P s a k) := by
                show _ = _
                unfold fillB
                rw [if_neg (by omega), if_pos h3, hy]
              have hkl : k < old.length := by have := HOE.out; omega
              obtain ⟨b, off, rfl, hbb, hcell⟩ := (HO0.out.below HBR.out).at (by omega) (by decide)
              have hc1 : wr.cell? ⟨b, off + k, none⟩ = some (.int .u8 (y.toNat : Int)) := hcell k _ (by rw [bv_at old k hkl, hy, List.getD_eq_getElem?_getD, List.getElem?_eq_getElem hkl]; rfl)
              clear hcell hbb h3 hy hkl h1
              go_wp2_with ((with_reducible show wpList _ _ _ (⟨none, Op.store 5 (.tmp 97) _, _, _, _, _⟩ :: _) _ _); refine wpList_store_byte rfl _ _ rfl HO.out k (by omega) y rfl rfl ?_; intro w2 ho2 hon2)
              go_wp2_with fail
              go_roundw
              case rel => exact ⟨k + 1, by omega, by go_num, by rw [← cur_set _ _ _ HV.out]; exact ho2, hon2.below HBR.out (own_ge HO.out)⟩
              case measure => simp [intOf]; omega
          · have HV : Hid (fillB old d P s a k = 0) := by
              show _ = _
              unfold fillB
              rw [if_neg (by omega), if_neg h3]
            by_cases h4 : P + k < s
            · have h4I : (P : Int) + (k : Int) < (s : Int) := by omega
              first
                | (exfalso; have := HOE.out; omega)
                | skip
              all_goals
                clear h3 h4 h1
                go_wp2_with fail
                go_roundw
                case rel => exact ⟨k + 1, by omega, by go_num, by rw [← cur_same _ _ HV.out]; exact HO.out, HBR.out⟩
                case measure => simp [intOf]; omega
            · have h4I : (s : Int) ≤ (P : Int) + (k : Int) := by omega
              clear h3 h4 h1
              go_wp2_with fail
              go_roundw
              case rel => exact ⟨k + 1, by omega, by go_num, by rw [← cur_same _ _ HV.out]; exact HO.out, HBR.out⟩
              case measure => simp [intOf]; omega
      · obtain rfl : k = 128 := by omega
        have hge : (128 : Int) ≤ ((128 : Nat) : Int) := by omega
        go_wp2_with fail
        go_ret2
        exact ⟨g, rfl, HO.out, HBR.out⟩
end
end Go.Proofs.Ytndfkpajojbfkaa.Ck
