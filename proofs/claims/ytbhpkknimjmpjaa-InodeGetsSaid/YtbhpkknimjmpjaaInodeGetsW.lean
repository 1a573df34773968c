/-
  'InodeGets' walked: any bytes: the inode that they are, or none.
-/
import Derived.Test.YtbhpkknimjmpjaaInode12
import Derived.Test.YtbhpkknimjmpjaaInode14
import Derived.Test.YtbhpkknimjmpjaaCopy
namespace Go.Proofs.Ytbhpkknimjmpjaa.In
open Go.RowKit Wd Wi
set_option linter.unusedVariables false
attribute [local go_sem] str_toList str_append str_size

theorem bytesN {N : Nat} {L : List UInt8} (hN : N = L.length) (hk : N ≤ 140737488355328) (A : Option Addr) (c : Nat) (W : World) (hs : Sl W W.heap.size 1 A N (L.map bv)) (hc : N ≤ c) :
    Calls Try.prog 8 #[.slice A N c] W fun e w' => ∃ A' c', e = .returned (.slice A' N c') ∧ Sl w' w'.heap.size 1 A' N (L.map bv) ∧ N ≤ c' ∧ c' ≤ maxLen ∧ Below W.heap.size W w' := by
  subst hN
  refine (bytes_any A L c W hs hc hk).mono ?_
  rintro e w1 ⟨A1, c1, rfl, hm1, hb1⟩
  obtain ⟨_, _, hv, h1, h2, h3⟩ := hm1.form
  injection hv with e1 _ e2
  subst e1; subst e2
  exact ⟨_, _, rfl, h3, h1, h2, hb1⟩
theorem getN {N : Nat} {L : List UInt8} (hN : N = L.length) (hk : N ≤ 140737488355328) (A : Option Addr) (c : Nat) (W : World) (hs : Sl W W.heap.size 1 A N (L.map bv)) (hc : N ≤ c) (hc2 : c ≤ maxLen) :
    Calls Try.prog 9 #[.slice A N c] W (GetR W L) := by
  subst hN
  exact iget_any A L c W hk hs hc hc2
theorem rgetN {N : Nat} {L : List UInt8} (hN : N = L.length) (hk : N ≤ 140737488355328) (A : Option Addr) (c : Nat) (W : World) (hs : Sl W W.heap.size 1 A N (L.map bv)) (hc : N ≤ c) (hc2 : c ≤ maxLen) :
    Calls Try.prog 10 #[.slice A N c] W (GetR W L) := by
  subst hN
  exact riget_any A L c W hk hs hc hc2

set_option maxRecDepth 100000 in
set_option maxHeartbeats 1600000 in
theorem gets_part (A : Option Addr) (l : List UInt8) (c : Nat) (w : World) (hs : Sl w w.heap.size 1 A l.length (l.map bv)) (hc : l.length ≤ c) (hc2 : c ≤ 140737488351232) :
    Calls Try.prog 3 #[.slice A l.length c, .bool false] w fun e w' => e = .returned (.bool true) ∧ Below w.heap.size w w' := by
  obtain ⟨L, hL⟩ : ∃ L, L = l := ⟨_, rfl⟩
  have hN : l.length = L.length := by rw [hL]
  have hNb : l.length ≤ 140737488355328 := by omega
  have HBY0 := Lib.hid (bytesN (rfl : l.length = l.length) (by omega))
  have HBY := Lib.hid (bytesN hN hNb)
  have HG0 := getN hN hNb
  have HRG0 := rgetN hN hNb
  have HLE := Lib.hid hL
  have HS := Lib.hid hs
  have HV := Lib.hid (getV_len L)
  have hput : isIno L = true → ∀ w', Calls Try.prog 12 #[.agg (ints (getV L))] w' (Res2 w' L true) := by
    intro h w'
    obtain ⟨h1, h2, _⟩ := isIno_chk h
    have hv : getV L = dec L := by simp [getV, h]
    rw [hv]
    have := iputL_yes (dec_len L) h1 w'
    rwa [h2] at this
  clear hL hs hN
  cases hi : isIno L
  all_goals
    have HG : Hid (∀ (A : Option Addr) (c : Nat) (W : World), Sl W W.heap.size 1 A l.length (L.map bv) → l.length ≤ c → c ≤ maxLen → Calls Try.prog 9 #[.slice A l.length c] W fun e w' => e = .returned (.tuple #[.agg (ints (getV L)), .bool (isIno L)]) ∧ Below W.heap.size W w') := HG0
    have HRG : Hid (∀ (A : Option Addr) (c : Nat) (W : World), Sl W W.heap.size 1 A l.length (L.map bv) → l.length ≤ c → c ≤ maxLen → Calls Try.prog 10 #[.slice A l.length c] W fun e w' => e = .returned (.tuple #[.agg (ints (getV L)), .bool (isIno L)]) ∧ Below W.heap.size W w') := HRG0
    rw [hi] at HG HRG
    have HPUT := Lib.hid (fun h => hput h)
    have HI := Lib.hid hi
    clear HG0 HRG0 hput hi
    generalize getV L = V at *
    go_enter Try.func3, Try.ntmps3
    go_wp2_with fail
    refine (HBY0.out A c w HS.out hc).mono ?_
    rintro e w1 ⟨A1, c1, rfl, hs1, hc1, hcm1, hb1⟩
    go_wp2_with fail
    obtain ⟨A5, hA5⟩ : ∃ A5, A5 = A1 := ⟨_, rfl⟩
    obtain ⟨c5, hc5e⟩ : ∃ c5, c5 = c1 := ⟨_, rfl⟩
    obtain ⟨w5, hw5⟩ : ∃ w5, w5 = w1 := ⟨_, rfl⟩
    have hs5 : Sl w5 w5.heap.size 1 A5 l.length (L.map bv) := by rw [hA5, hw5, HLE.out]; exact hs1
    have hc5 : l.length ≤ c5 := by rw [hc5e]; exact hc1
    have hcm5 : c5 ≤ maxLen := by rw [hc5e]; exact hcm1
    have hb5 : Below w.heap.size w w5 := by rw [hw5]; exact hb1
    rw [← hA5, ← hc5e, ← hw5]
    clear hA5 hc5e hw5 hs1 hc1 hcm1 hb1
    have HS5 := Lib.hid hs5
    have HC5 := Lib.hid (And.intro hc5 hcm5)
    have HB5 := Lib.hid hb5
    clear hs5 hc5 hcm5 hb5
    refine (HBY.out A5 c5 w5 HS5.out HC5.out.1).mono ?_
    rintro e w6 ⟨A6, c6, rfl, hs6, hc6, hcm6, hb6⟩
    have HS6 := Lib.hid hs6
    have HC6 := Lib.hid (And.intro hc6 hcm6)
    have k6 := HB5.out.trans (hb6.mono HB5.out.size)
    have HB6 := Lib.hid k6
    replace HS5 := Lib.hid (HS5.out.on (Nat.le_refl _) hb6)
    clear hs6 hc6 hcm6 k6 hb6
    go_wp2_with fail
    refine (HG.out A6 c6 w6 HS6.out HC6.out.1 HC6.out.2).mono ?_
    rintro e w7 ⟨rfl, hb7⟩
    have k7 := HB6.out.trans (hb7.mono HB6.out.size)
    have HB7 := Lib.hid k7
    replace HS5 := Lib.hid (HS5.out.on (Nat.le_refl _) hb7)
    clear hb7 k7 HS6
    go_wp2_with (first
      | ((with_reducible show wpList _ _ _ (⟨some 6, _, _, _, _, _⟩ :: _) _ _); refine wpList_alloc_ino rfl rfl ?_; intro w8 hr8 hb8 hlt8)
      | ((with_reducible show wpList _ _ _ (⟨none, Op.store 26 (.tmp 6) _, _, _, _, _⟩ :: _) _ _); refine wpList_store_ino rfl _ _ rfl hr8 zIno_len HV.out rfl rfl ?_; intro w9 hr9 ho9))
    have HS9 : Hid (Sl w9 w9.heap.size 1 A5 l.length (L.map bv)) := (Sl.only (HS5.out.below hb8) ho9 (Nat.le_refl _)).more (Nat.le_trans hb8.size ho9.size)
    have HB9 : Hid (Below w.heap.size w w9) := ho9.below (HB7.out.trans (hb8.mono HB7.out.size)) HB7.out.size
    have HR9 := Lib.hid hr9
    have HLT9 : Hid (w7.heap.size < w9.heap.size) := Nat.lt_of_lt_of_le hlt8 ho9.size
    clear hr8 hb8 hlt8 hr9 ho9 HS5
    refine (HRG.out A5 c5 w9 HS9.out HC5.out.1 HC5.out.2).mono ?_
    rintro e w10 ⟨rfl, hb10⟩
    have k10 := HB9.out.trans (hb10.mono HB9.out.size)
    have HB10 := Lib.hid k10
    have HS10 := Lib.hid (HS9.out.on (Nat.le_refl _) hb10)
    have HR10 := Lib.hid (HR9.out.below hb10 HLT9.out)
    have HLT10 : Hid (w7.heap.size < w10.heap.size) := Nat.lt_of_lt_of_le HLT9.out hb10.size
    have hvv : (!(V == V)) = false := by simp
    clear hb10 k10
    first
    | (have HP := Lib.hid (HPUT.out HI.out)
       go_wp2_with (first
         | ((with_reducible show wpList _ _ _ (⟨some 8, _, _, _, _, _⟩ :: _) _ _); refine wpList_alloc_ino rfl rfl ?_; intro w11 hr11 hb11 hlt11; have HR11 := Lib.hid (HR10.out.below hb11 HLT10.out))
         | ((with_reducible show wpList _ _ _ (⟨none, Op.store 26 (.tmp 8) _, _, _, _, _⟩ :: _) _ _); refine wpList_store_ino rfl _ _ rfl hr11 zIno_len HV.out rfl rfl ?_; intro w12 hr12 ho12; have HR12 := Lib.hid (HR11.out.only ho12 (Nat.ne_of_lt HLT10.out)))
         | ((with_reducible show wpList _ _ _ (⟨some 30, _, _, _, _, _⟩ :: _) _ _); refine wpList_load_ino rfl _ rfl HR12.out HV.out rfl ?_)
         | ((with_reducible show wpList _ _ _ (⟨some 31, _, _, _, _, _⟩ :: _) _ _); refine wpList_load_ino rfl _ rfl hr12 HV.out rfl ?_)
         | ((with_reducible show wpList _ _ _ (⟨some 32, _, _, _, _, _⟩ :: _) _ _); refine wpList_neq_ino rfl rfl V V rfl rfl HV.out HV.out ?_; rw [hvv])
         | ((with_reducible show wpList _ _ _ (⟨some 42, _, _, _, _, _⟩ :: _) _ _); refine wpList_load_ino rfl _ rfl HR12.out HV.out rfl ?_)
         | (go_at_call 12; refine (HP.out _).mono ?_; rintro e w13 ⟨A13, c13, rfl, hs13, _, _, hb13⟩; have HS13 := Lib.hid hs13; have HS14 := Lib.hid (((Sl.only (HS10.out.below hb11) ho12 (Nat.le_refl _)).more (Nat.le_trans hb11.size ho12.size)).on (Nat.le_refl _) hb13); clear hs13)
         | ((with_reducible show wpList _ _ _ (⟨some 49, _, _, _, _, _⟩ :: _) _ _); refine wpList_convert_sl rfl _ _ 5 _ rfl Try.underlying22 Try.underlying5 Try.underlying9 _ _ _ L rfl HS13.out rfl ?_)
         | ((with_reducible show wpList _ _ _ (⟨some 51, _, _, _, _, _⟩ :: _) _ _); refine wpList_convert_sl rfl _ _ 5 _ rfl Try.underlying22 Try.underlying5 Try.underlying9 _ _ _ L rfl HS14.out rfl ?_)
         | (go_at_call 11; refine (awake_any _).mono ?_; rintro e w15 ⟨rfl, hb15⟩))
       go_ret
       have k12 : Below w.heap.size w w12 := ho12.below (HB10.out.trans (hb11.mono HB10.out.size)) HB10.out.size
       have k13 := k12.trans (hb13.mono k12.size)
       exact ⟨rfl, k13.trans (hb15.mono k13.size)⟩)
    | (go_wp2_with (first
         | ((with_reducible show wpList _ _ _ (⟨some 8, _, _, _, _, _⟩ :: _) _ _); refine wpList_alloc_ino rfl rfl ?_; intro w11 hr11 hb11 hlt11; have HR11 := Lib.hid (HR10.out.below hb11 HLT10.out))
         | ((with_reducible show wpList _ _ _ (⟨none, Op.store 26 (.tmp 8) _, _, _, _, _⟩ :: _) _ _); refine wpList_store_ino rfl _ _ rfl hr11 zIno_len HV.out rfl rfl ?_; intro w12 hr12 ho12; have HR12 := Lib.hid (HR11.out.only ho12 (Nat.ne_of_lt HLT10.out)))
         | ((with_reducible show wpList _ _ _ (⟨some 30, _, _, _, _, _⟩ :: _) _ _); refine wpList_load_ino rfl _ rfl HR12.out HV.out rfl ?_)
         | ((with_reducible show wpList _ _ _ (⟨some 31, _, _, _, _, _⟩ :: _) _ _); refine wpList_load_ino rfl _ rfl hr12 HV.out rfl ?_)
         | ((with_reducible show wpList _ _ _ (⟨some 32, _, _, _, _, _⟩ :: _) _ _); refine wpList_neq_ino rfl rfl V V rfl rfl HV.out HV.out ?_; rw [hvv])
         | (go_at_call 11; refine (awake_any _).mono ?_; rintro e w15 ⟨rfl, hb15⟩))
       go_ret
       have k12 : Below w.heap.size w w12 := ho12.below (HB10.out.trans (hb11.mono HB10.out.size)) HB10.out.size
       exact ⟨rfl, k12.trans (hb15.mono k12.size)⟩)

set_option maxRecDepth 100000 in
set_option maxHeartbeats 1600000 in
theorem gets_full (A : Option Addr) (l : List UInt8) (c : Nat) (w : World) (hs : Sl w w.heap.size 1 A l.length (l.map bv)) (hc : l.length ≤ c) (hc2 : c ≤ 140737488351232) :
    Calls Try.prog 3 #[.slice A l.length c, .bool true] w fun e w' => e = .returned (.bool true) ∧ Below w.heap.size w w' := by
  obtain ⟨L, hL⟩ : ∃ L, L = over l (List.replicate 128 0) := ⟨_, rfl⟩
  have hN : 128 = L.length := by rw [hL, over_len, List.length_replicate]
  have hNb : 128 ≤ 140737488355328 := by omega
  have HBY0 := Lib.hid (bytesN (rfl : l.length = l.length) (by omega))
  have HBY := Lib.hid (bytesN hN hNb)
  have HG0 := getN hN hNb
  have HRG0 := rgetN hN hNb
  have HLE := Lib.hid hL
  have HS := Lib.hid hs
  have HV := Lib.hid (getV_len L)
  have hput : isIno L = true → ∀ w', Calls Try.prog 12 #[.agg (ints (getV L))] w' (Res2 w' L true) := by
    intro h w'
    obtain ⟨h1, h2, _⟩ := isIno_chk h
    have hv : getV L = dec L := by simp [getV, h]
    rw [hv]
    have := iputL_yes (dec_len L) h1 w'
    rwa [h2] at this
  clear hL hs hN
  cases hi : isIno L
  all_goals
    have HG : Hid (∀ (A : Option Addr) (c : Nat) (W : World), Sl W W.heap.size 1 A 128 (L.map bv) → 128 ≤ c → c ≤ maxLen → Calls Try.prog 9 #[.slice A 128 c] W fun e w' => e = .returned (.tuple #[.agg (ints (getV L)), .bool (isIno L)]) ∧ Below W.heap.size W w') := HG0
    have HRG : Hid (∀ (A : Option Addr) (c : Nat) (W : World), Sl W W.heap.size 1 A 128 (L.map bv) → 128 ≤ c → c ≤ maxLen → Calls Try.prog 10 #[.slice A 128 c] W fun e w' => e = .returned (.tuple #[.agg (ints (getV L)), .bool (isIno L)]) ∧ Below W.heap.size W w') := HRG0
    rw [hi] at HG HRG
    have HPUT := Lib.hid (fun h => hput h)
    have HI := Lib.hid hi
    clear HG0 HRG0 hput hi
    generalize getV L = V at *
    go_enter Try.func3, Try.ntmps3
    go_wp2_with fail
    refine (HBY0.out A c w HS.out hc).mono ?_
    rintro e w1 ⟨A1, c1, rfl, hs1, hc1, hcm1, hb1⟩
    have HSO := Lib.hid (HS.out.on (Nat.le_refl _) hb1)
    clear hs1 hc1 hcm1
    go_wp2_with (first
      | ((with_reducible show wpList _ _ _ (⟨some 15, _, _, _, _, _⟩ :: _) _ _); refine wpList_make_bytes rfl _ _ rfl 128 (by decide) rfl rfl ?_; intro w2 ho2 hb2 hlt2)
      | ((with_reducible show wpList _ _ _ (⟨some 18, _, _, _, _, _⟩ :: _) _ _); refine wpList_copy_bytes rfl _ _ rfl (l := l) (by simp) rfl rfl ho2 (HSO.out.below hb2) ?_; intro w5 v5 ho5 hoo5; rw [← HLE.out] at ho5))
    obtain ⟨A5, hA5⟩ : ∃ A5 : Option Addr, A5 = some ⟨w1.heap.size, 0, none⟩ := ⟨_, rfl⟩
    obtain ⟨c5, hc5e⟩ : ∃ c5 : Nat, c5 = 128 := ⟨_, rfl⟩
    have hs5 : Sl w5 w5.heap.size 1 A5 128 (L.map bv) := by rw [hA5]; exact Sl.own ho5
    have hc5 : 128 ≤ c5 := by omega
    have hcm5 : c5 ≤ maxLen := by rw [hc5e]; decide
    have hb5 : Below w.heap.size w w5 := hoo5.below (hb1.trans (hb2.mono hb1.size)) hb1.size
    rw [← hA5]
    clear hb1 ho2 hb2 hlt2 ho5 hoo5 HSO hA5
    have HS5 := Lib.hid hs5
    have HC5 := Lib.hid (And.intro hc5 hcm5)
    have HB5 := Lib.hid hb5
    clear hs5 hc5 hcm5 hb5
    refine (HBY.out A5 128 w5 HS5.out (Nat.le_refl _)).mono ?_
    rintro e w6 ⟨A6, c6, rfl, hs6, hc6, hcm6, hb6⟩
    have HS6 := Lib.hid hs6
    have HC6 := Lib.hid (And.intro hc6 hcm6)
    have k6 := HB5.out.trans (hb6.mono HB5.out.size)
    have HB6 := Lib.hid k6
    replace HS5 := Lib.hid (HS5.out.on (Nat.le_refl _) hb6)
    clear hs6 hc6 hcm6 k6 hb6
    go_wp2_with fail
    refine (HG.out A6 c6 w6 HS6.out HC6.out.1 HC6.out.2).mono ?_
    rintro e w7 ⟨rfl, hb7⟩
    have k7 := HB6.out.trans (hb7.mono HB6.out.size)
    have HB7 := Lib.hid k7
    replace HS5 := Lib.hid (HS5.out.on (Nat.le_refl _) hb7)
    clear hb7 k7 HS6
    go_wp2_with (first
      | ((with_reducible show wpList _ _ _ (⟨some 6, _, _, _, _, _⟩ :: _) _ _); refine wpList_alloc_ino rfl rfl ?_; intro w8 hr8 hb8 hlt8)
      | ((with_reducible show wpList _ _ _ (⟨none, Op.store 26 (.tmp 6) _, _, _, _, _⟩ :: _) _ _); refine wpList_store_ino rfl _ _ rfl hr8 zIno_len HV.out rfl rfl ?_; intro w9 hr9 ho9))
    have HS9 : Hid (Sl w9 w9.heap.size 1 A5 128 (L.map bv)) := (Sl.only (HS5.out.below hb8) ho9 (Nat.le_refl _)).more (Nat.le_trans hb8.size ho9.size)
    have HB9 : Hid (Below w.heap.size w w9) := ho9.below (HB7.out.trans (hb8.mono HB7.out.size)) HB7.out.size
    have HR9 := Lib.hid hr9
    have HLT9 : Hid (w7.heap.size < w9.heap.size) := Nat.lt_of_lt_of_le hlt8 ho9.size
    clear hr8 hb8 hlt8 hr9 ho9 HS5
    refine (HRG.out A5 128 w9 HS9.out (Nat.le_refl _) (by decide)).mono ?_
    rintro e w10 ⟨rfl, hb10⟩
    have k10 := HB9.out.trans (hb10.mono HB9.out.size)
    have HB10 := Lib.hid k10
    have HS10 := Lib.hid (HS9.out.on (Nat.le_refl _) hb10)
    have HR10 := Lib.hid (HR9.out.below hb10 HLT9.out)
    have HLT10 : Hid (w7.heap.size < w10.heap.size) := Nat.lt_of_lt_of_le HLT9.out hb10.size
    have hvv : (!(V == V)) = false := by simp
    clear hb10 k10
    first
    | (have HP := Lib.hid (HPUT.out HI.out)
       go_wp2_with (first
         | ((with_reducible show wpList _ _ _ (⟨some 8, _, _, _, _, _⟩ :: _) _ _); refine wpList_alloc_ino rfl rfl ?_; intro w11 hr11 hb11 hlt11; have HR11 := Lib.hid (HR10.out.below hb11 HLT10.out))
         | ((with_reducible show wpList _ _ _ (⟨none, Op.store 26 (.tmp 8) _, _, _, _, _⟩ :: _) _ _); refine wpList_store_ino rfl _ _ rfl hr11 zIno_len HV.out rfl rfl ?_; intro w12 hr12 ho12; have HR12 := Lib.hid (HR11.out.only ho12 (Nat.ne_of_lt HLT10.out)))
         | ((with_reducible show wpList _ _ _ (⟨some 30, _, _, _, _, _⟩ :: _) _ _); refine wpList_load_ino rfl _ rfl HR12.out HV.out rfl ?_)
         | ((with_reducible show wpList _ _ _ (⟨some 31, _, _, _, _, _⟩ :: _) _ _); refine wpList_load_ino rfl _ rfl hr12 HV.out rfl ?_)
         | ((with_reducible show wpList _ _ _ (⟨some 32, _, _, _, _, _⟩ :: _) _ _); refine wpList_neq_ino rfl rfl V V rfl rfl HV.out HV.out ?_; rw [hvv])
         | ((with_reducible show wpList _ _ _ (⟨some 42, _, _, _, _, _⟩ :: _) _ _); refine wpList_load_ino rfl _ rfl HR12.out HV.out rfl ?_)
         | (go_at_call 12; refine (HP.out _).mono ?_; rintro e w13 ⟨A13, c13, rfl, hs13, _, _, hb13⟩; have HS13 := Lib.hid hs13; have HS14 := Lib.hid (((Sl.only (HS10.out.below hb11) ho12 (Nat.le_refl _)).more (Nat.le_trans hb11.size ho12.size)).on (Nat.le_refl _) hb13); clear hs13)
         | ((with_reducible show wpList _ _ _ (⟨some 49, _, _, _, _, _⟩ :: _) _ _); refine wpList_convert_sl rfl _ _ 5 _ rfl Try.underlying22 Try.underlying5 Try.underlying9 _ _ _ L rfl HS13.out rfl ?_)
         | ((with_reducible show wpList _ _ _ (⟨some 51, _, _, _, _, _⟩ :: _) _ _); refine wpList_convert_sl rfl _ _ 5 _ rfl Try.underlying22 Try.underlying5 Try.underlying9 _ _ _ L rfl HS14.out rfl ?_)
         | (go_at_call 11; refine (awake_any _).mono ?_; rintro e w15 ⟨rfl, hb15⟩))
       go_ret
       have k12 : Below w.heap.size w w12 := ho12.below (HB10.out.trans (hb11.mono HB10.out.size)) HB10.out.size
       have k13 := k12.trans (hb13.mono k12.size)
       exact ⟨rfl, k13.trans (hb15.mono k13.size)⟩)
    | (go_wp2_with (first
         | ((with_reducible show wpList _ _ _ (⟨some 8, _, _, _, _, _⟩ :: _) _ _); refine wpList_alloc_ino rfl rfl ?_; intro w11 hr11 hb11 hlt11; have HR11 := Lib.hid (HR10.out.below hb11 HLT10.out))
         | ((with_reducible show wpList _ _ _ (⟨none, Op.store 26 (.tmp 8) _, _, _, _, _⟩ :: _) _ _); refine wpList_store_ino rfl _ _ rfl hr11 zIno_len HV.out rfl rfl ?_; intro w12 hr12 ho12; have HR12 := Lib.hid (HR11.out.only ho12 (Nat.ne_of_lt HLT10.out)))
         | ((with_reducible show wpList _ _ _ (⟨some 30, _, _, _, _, _⟩ :: _) _ _); refine wpList_load_ino rfl _ rfl HR12.out HV.out rfl ?_)
         | ((with_reducible show wpList _ _ _ (⟨some 31, _, _, _, _, _⟩ :: _) _ _); refine wpList_load_ino rfl _ rfl hr12 HV.out rfl ?_)
         | ((with_reducible show wpList _ _ _ (⟨some 32, _, _, _, _, _⟩ :: _) _ _); refine wpList_neq_ino rfl rfl V V rfl rfl HV.out HV.out ?_; rw [hvv])
         | (go_at_call 11; refine (awake_any _).mono ?_; rintro e w15 ⟨rfl, hb15⟩))
       go_ret
       have k12 : Below w.heap.size w w12 := ho12.below (HB10.out.trans (hb11.mono HB10.out.size)) HB10.out.size
       exact ⟨rfl, k12.trans (hb15.mono k12.size)⟩)

theorem inodeGets_walk (A : Option Addr) (l : List UInt8) (c : Nat) (b : Bool) (w : World) (hs : Sl w w.heap.size 1 A l.length (l.map bv)) (hc : l.length ≤ c) (hc2 : c ≤ 140737488351232) :
    Calls Try.prog 3 #[.slice A l.length c, .bool b] w fun e w' => e = .returned (.bool true) ∧ Below w.heap.size w w' := by
  cases b
  · exact gets_part A l c w hs hc hc2
  · exact gets_full A l c w hs hc hc2
end Go.Proofs.Ytbhpkknimjmpjaa.In
