/-
  dir: the document's Put.
-/
import Derived.Test.YtifbbbphoponcaaDir9
import Derived.Test.YtifbbbphoponcaaWire3
import Derived.Test.YtifbbbphoponcaaWire6
namespace Go.Proofs.Ytifbbbphoponcaa.Dr
open Go.RowKit Wd Wi
set_option linter.unusedVariables false
set_option linter.unusedSimpArgs false

def ResTM (w : World) (l : List UInt8) (e : Ending) (w' : World) : Prop :=
  ∃ A c, e = .returned (.tuple #[.slice A l.length c, .bool true]) ∧ Mine w' w.heap.size 5 1 (.slice A l.length c) l.length (l.map bv) ∧ Below w.heap.size w w'
theorem resTM_mk {w w' : World} {A : Option Addr} {n c : Nat} {l : List UInt8} {xs : List Value} (hn : n = l.length) (hx : xs = l.map bv) (h : Mine w' w.heap.size 5 1 (.slice A n c) n xs) (hb : Below w.heap.size w w') :
    ResTM w l (.returned (.tuple #[.slice A n c, .bool true])) w' := by
  subst hn; subst hx
  exact ⟨A, c, rfl, h, hb⟩
set_option maxHeartbeats 800000 in
theorem rtext_mine (s : ByteArray) (k : Nat) (w : World) (hk : k ≤ 255) (hsk : s.size ≤ k) :
    Calls Try.prog 35 #[.string s, .int .i64 (k : Int)] w (ResTM w (txt s k)) := by
  obtain ⟨i0, hi, hz0, hz1, hz2⟩ := info_parts infoB
  obtain ⟨m, rfl⟩ : ∃ m, k = s.size + m := ⟨k - s.size, by omega⟩
  have hs0 : (0 : Int) ≤ (s.size : Int) := by omega
  have hs1 : (s.size : Int) ≤ 255 := by omega
  have hs2 : (0 : Int) ≤ (m : Int) := by omega
  have hs3 : (m : Int) ≤ 255 := by omega
  have hs4 : (s.size : Int) + (m : Int) ≤ 255 := by omega
  have hm1 : Mine (w.alloc (.cells #[.int .u8 (s.size : Int)] 5)) w.heap.size 5 1 (.slice (some ⟨w.heap.size, 0, none⟩) 1 1) 1 [.int .u8 (s.size : Int)] :=
    .inr ⟨rfl, .inr ⟨w.heap.size, 1, _, rfl, Nat.le_refl _, heap_alloc_new w _, Nat.le_refl _, by simp [maxLen], rfl, rfl⟩⟩
  go_enter Try.func35, Try.ntmps35
  go_wp2_with (first
    | (at_builtin; refine wpList_append_mine rfl (.tmp 22) (.tmp 23) _ _ rfl w.heap.size 5 i0 (.int .u8 0) 1 1 hz1 hz2 rfl (by decide) _ _ _ rfl hm1 _ s.size (byteCells s) rfl (Gives.string Try.underlying23 Try.underlying9 hi hz0 hz1 _) (by simp only [maxLen]; omega) (by omega) (by simp) ?_; intro A2 c2 w2 hm2 hg2 hb2 hat2 hown2; have hsz2 := hb2.size; simp at hsz2)
    | (at_builtin; refine wpList_append_mine rfl (.tmp 25) (.tmp 29) _ _ rfl w.heap.size 5 i0 (.int .u8 0) 1 1 hz1 hz2 rfl (by decide) _ _ _ rfl hm2 _ m (List.replicate m (.int .u8 0)) rfl (Gives.zeros m (by omega) .i64 Try.underlying23 Try.underlying3 hi hz0 rfl rfl hz1 (by omega) (by rw [hz2]; omega)) (by simp only [maxLen]; omega) (by omega) (by omega) ?_; intro A3 c3 w3 hm3 hg3 hb3 hat3 hown3))
  go_ret2
  refine resTM_mk ?_ (txt_cells [] s (s.size + m) m (by omega) rfl) hm3 ((((Below.refl _ _).alloc (Nat.le_refl _) _).trans hb2).trans hb3)
  rw [txt_len _ _ (by omega)]
  omega
set_option maxHeartbeats 3200000 in
theorem rputE_any (A : Option Addr) (l : List En) (c : Nat) (w : World) (hs : Sl w w.heap.size 2 A l.length (ecs l)) (h : checkB l = true) :
    Calls Try.prog 15 #[.slice A l.length c] w (Res w (putL l)) := by
  obtain ⟨i0, hi, hz0, hz1, hz2⟩ := info_parts infoB
  obtain ⟨hok, hlen⟩ := check_parts h
  have hmay := okTo_may hok
  have HS := Lib.hid hs
  have HMAY := Lib.hid hmay
  have hbl : (entsB l).length = 32 * l.length := entsB_len fun x hx => (may_size (hmay x hx)).2.1
  have HBL := Lib.hid hbl
  have HPL : Hid (putL l = entsB l ++ List.replicate (128 * ((l.length + 3) / 4) - 32 * l.length) 0) := Lib.hid rfl
  clear hs hok hmay h hbl
  go_enter Try.func15, Try.ntmps15
  go_wp2_with fail
  go_loopw [3, 4] (fun b i wr => ∃ (k n : Nat) (A' : Option Addr) (c' : Nat) (bl : List UInt8), k ≤ l.length ∧ i = .int .i64 (k : Int) ∧ b = .slice A' n c' ∧ n = 32 * k ∧ bl = entsB (l.take k) ∧ Mine wr w.heap.size 5 1 (.slice A' n c') n (bl.map bv) ∧ Below w.heap.size w wr) (fun _ i _ => l.length - (intOf i).toNat)
  case atStart => exact ⟨0, 0, none, 0, [], by omega, rfl, rfl, rfl, rfl, Mine.nil, Below.refl _ _⟩
  case round =>
    obtain ⟨k, n, A', c', bl, hkl, rfl, rfl, hn, hbe, hmine, hbel⟩ := hrel
    have HN := Lib.hid hn
    have HBE := Lib.hid hbe
    have HM := Lib.hid hmine
    have HB := Lib.hid hbel
    have hna : n ≤ 32 * k := by omega
    have hnb : 32 * k ≤ n := by omega
    clear hn hbe hmine hbel
    by_cases hlt : k < l.length
    · have hltI : (k : Int) < (l.length : Int) := by omega
      have hk0 : (0 : Int) ≤ (k : Int) := by omega
      obtain ⟨x, hx⟩ : ∃ x, l[k]? = some x := ⟨_, List.getElem?_eq_getElem hlt⟩
      obtain ⟨x1, x2, x3, x4⟩ := may_size (HMAY.out x (List.mem_of_getElem? hx))
      have hA : ∃ b off, A = some ⟨b, off, none⟩ := by
        obtain ⟨b, off, e, _⟩ := HS.out.at (by omega) (by decide)
        exact ⟨b, off, e⟩
      obtain ⟨b, off, rfl⟩ := hA
      obtain ⟨hrx0, hb0⟩ := ent_range HS.out hx
      have HRX := Lib.hid (range_keep hrx0 (HB.out.block b hb0))
      have hbr : b < wr.heap.size := Nat.lt_of_lt_of_le hb0 HB.out.size
      have HNX := Lib.hid (entsB_succ hx)
      have hcn := range_name HRX.out
      clear hrx0 hx
      go_wp2_with fail
      refine (rtext_mine x.1 20 wr (by decide) x2).mono ?_
      rintro e w2 ⟨A2, c2, rfl, hm2, hb2⟩
      have hl2 := txt_len x.1 20 x2
      obtain ⟨t2, ht2⟩ : ∃ t2, t2 = txt x.1 20 := ⟨_, rfl⟩
      rw [← ht2] at hm2 hl2
      rw [← ht2]
      obtain ⟨n2, hn2⟩ : ∃ n2, n2 = t2.length := ⟨_, rfl⟩
      rw [← hn2] at hm2 hl2
      rw [← hn2]
      have HT2 := Lib.hid ht2
      have HM2 := Lib.hid hm2
      have HBW2 := Lib.hid hb2
      have hci := range_ino (range_keep HRX.out (hb2.block b hbr))
      have h2a : n2 ≤ 21 := by omega
      have h2b : 21 ≤ n2 := by omega
      clear hcn ht2 hm2 hb2 hl2 hn2
      go_wp2_with fail
      refine (rput_any x.2 1 w2 (by omega) (by omega) (by decide) (by decide)).mono ?_
      rintro e w3 ⟨A3, c3, rfl, hs3, hc3, hcm3, hb3⟩
      have e8 : (min (1 : Int) 8).toNat = 1 := by decide
      rw [e8] at hs3
      rw [e8]
      have hp1 := putB_len x.2 1
      obtain ⟨pb, hpb⟩ : ∃ pb, pb = putB x.2 1 := ⟨_, rfl⟩
      rw [← hpb] at hs3 hp1
      rw [← hpb]
      obtain ⟨n3, hn3⟩ : ∃ n3, n3 = pb.length := ⟨_, rfl⟩
      rw [← hn3] at hs3 hp1
      rw [← hn3]
      have HPB := Lib.hid hpb
      have HS3 := Lib.hid hs3
      have HM3 := Lib.hid (HM2.out.on hb3)
      have HBW3 := Lib.hid (HBW2.out.trans (Below.mono hb3 HBW2.out.size))
      have h3a : n3 ≤ 1 := by omega
      have h3b : 1 ≤ n3 := by omega
      clear hci hpb hs3 hb3 hp1 hn3 hc3 hcm3 e8
      go_wp2_with (at_builtin; refine wpList_append_mine rfl (.tmp 22) (.tmp 28) _ _ rfl wr.heap.size 5 i0 (.int .u8 0) 1 1 hz1 hz2 rfl (by decide) _ _ _ rfl HM3.out _ n3 (pb.map bv) rfl (Gives.slice Try.underlying23 hi hz0 (by rw [hz1]; exact HS3.out) (bv_one _)) (by simp only [maxLen]; omega) (by omega) HBW3.out.size ?_; intro A4 c4 w4 hm4 hg4 hb4 hat4 hown4; rw [← List.map_append] at hm4; have HM4 := Lib.hid hm4; have HBW4 := Lib.hid (HBW3.out.trans hb4); clear hm4 hg4 hb4 hat4 hown4)
      have hl4 : (t2 ++ pb).length = n2 + n3 := by
        have := HM4.out.len
        simpa using this
      have HM5 := HM4.out
      obtain ⟨t4, ht4⟩ : ∃ t4, t4 = t2 ++ pb := ⟨_, rfl⟩
      rw [← ht4] at hl4 HM5
      rw [← hl4] at HM5
      rw [← hl4]
      have HT4 := Lib.hid ht4
      have h4a : t4.length ≤ 22 := by omega
      have h4b : 22 ≤ t4.length := by omega
      refine (rpad_any wr.heap.size A4 t4 c4 32 w4 HBW4.out.size HM5 (by omega) (by decide) (by decide)).mono ?_
      rintro e w5 ⟨A5, c5, rfl, hm5, hb5⟩
      have h10 : (32 : Int).toNat - t4.length = 10 := by
        have : (32 : Int).toNat = 32 := rfl
        omega
      rw [h10] at hm5
      rw [h10]
      have HEB : Hid (t4 ++ List.replicate 10 0 = entB x) := Lib.hid (by rw [HT4.out, HT2.out, HPB.out]; rfl)
      rw [HEB.out] at hm5
      rw [HEB.out]
      have hle := entB_len x2
      obtain ⟨A6, c6, hv6, hc6, hcm6, hs6⟩ := hm5.form
      injection hv6 with hv61 hv62 hv63
      subst hv61; subst hv63
      obtain ⟨eb, heb⟩ : ∃ eb, eb = entB x := ⟨_, rfl⟩
      rw [← heb] at hs6 hle
      rw [← heb]
      obtain ⟨n5, hn5⟩ : ∃ n5, n5 = eb.length := ⟨_, rfl⟩
      rw [← hn5] at hs6 hle
      rw [← hn5]
      have HEE := Lib.hid heb
      have HS6 := Lib.hid hs6
      have HBW5 := Lib.hid (HBW4.out.trans hb5)
      have HM6 := Lib.hid (HM.out.on HBW5.out)
      have HB5 := Lib.hid (HB.out.trans (Below.mono HBW5.out HB.out.size))
      have h5a : n5 ≤ 32 := by omega
      have h5b : 32 ≤ n5 := by omega
      clear HM5 hl4 ht4 hm5 hb5 h10 hle heb hn5 hs6 hc6 hcm6 hv62 h4a h4b
      go_wp2_with (at_builtin; refine wpList_append_mine rfl (.tmp 30) (.tmp 32) _ _ rfl w.heap.size 5 i0 (.int .u8 0) 1 1 hz1 hz2 rfl (by decide) _ _ _ rfl HM6.out _ n5 (eb.map bv) rfl (Gives.slice Try.underlying23 hi hz0 (by rw [hz1]; exact HS6.out) (bv_one _)) (by simp only [maxLen]; omega) (by omega) HB5.out.size ?_; intro A7 c7 w7 hm7 hg7 hb7 hat7 hown7; rw [← List.map_append] at hm7; have HM7 := Lib.hid hm7; have HB7 := Lib.hid (HB5.out.trans hb7); clear hm7 hg7 hb7 hat7 hown7)
      go_roundw
      case rel => exact ⟨k + 1, n + n5, A7, c7, bl ++ eb, by omega, by go_num, rfl, by omega, by rw [HNX.out, HBE.out, HEE.out], HM7.out, HB7.out⟩
      case measure => simp [intOf]; omega
    · have hge : (l.length : Int) ≤ (k : Int) := by omega
      obtain rfl : k = l.length := by omega
      obtain ⟨q, hq⟩ : ∃ q, q = (l.length + 3) / 4 := ⟨_, rfl⟩
      have hqa : q * 4 ≤ l.length + 3 := by omega
      have hqb : l.length ≤ q * 4 := by omega
      have HQ := Lib.hid hq
      have hbf : bl = entsB l := by rw [HBE.out, List.take_of_length_le (Nat.le_refl _)]
      have HBF := Lib.hid hbf
      have hnl : bl.length = n := by
        have := HM.out.len
        simpa using this
      have HNL := Lib.hid hnl
      clear hq hbf hnl HBE HN
      go_wp2_with fail
      go_loopw [3] (fun b wz => ∃ (m : Nat) (A' : Option Addr) (c' : Nat), n ≤ m ∧ m ≤ 128 * q ∧ b = .slice A' m c' ∧ Mine wz w.heap.size 5 1 (.slice A' m c') m ((bl ++ List.replicate (m - n) 0).map bv) ∧ Below w.heap.size w wz) (fun b _ => 128 * q - lenV b)
      case atStart => exact ⟨n, A', c', Nat.le_refl _, by omega, rfl, by rw [Nat.sub_self]; simpa using HM.out, HB.out⟩
      case round =>
        clear HM HB
        obtain ⟨m, A', c', hnm, hmq, rfl, hmine, hbel⟩ := hrel
        have HM := Lib.hid hmine
        have HB := Lib.hid hbel
        clear hmine hbel
        obtain ⟨r, hr⟩ : ∃ r, r = m % 128 := ⟨_, rfl⟩
        have hrw : (m : Int).tmod 128 = (r : Int) := by rw [hr]; rfl
        by_cases h0 : r = 0
        · have hb0 : ((r : Int) != 0) = false := by rw [h0]; rfl
          have hmf : m = 128 * q := by omega
          have HMF := Lib.hid hmf
          clear hr h0 hmf
          go_wp2_with fail
          go_ret
          obtain ⟨A8, c8, hv, hc8, hm8, hs8⟩ := HM.out.form
          injection hv with hv1 hv2 hv3
          subst hv1; subst hv3
          have hpl : putL l = bl ++ List.replicate (m - n) 0 := by
            rw [HPL.out, HBF.out, ← HQ.out, ← HMF.out]
            congr 2
            omega
          have hpn : (putL l).length = m := by
            rw [hpl, List.length_append, HNL.out, List.length_replicate]
            omega
          refine ⟨A', c', ?_, ?_, ?_, hm8, HB.out⟩
          · rw [hpn] <;> rfl
          · rw [hpn, hpl]
            exact hs8
          · rw [hpn]
            exact hc8
        · have hb0 : ((r : Int) != 0) = true := by simp; omega
          have hlt2 : m < 128 * q := by omega
          clear hr h0
          go_wp2_with (at_builtin; refine wpList_append_mine rfl (.tmp 38) (.tmp 39) _ _ rfl w.heap.size 5 i0 (.int .u8 0) 1 1 hz1 hz2 rfl (by decide) _ _ _ rfl (Mine.alloc HM.out _) _ 1 [.int .u8 0] rfl (Gives.elem Try.underlying23 hi hz0 hz1 _ rfl) (by simp only [maxLen]; omega) (by omega) (by have := HB.out.size; simp; omega) ?_; intro A7 c7 w7 hm7 hg7 hb7 hat7 hown7; have HM7 := Lib.hid hm7; have HB7 := Lib.hid ((HB.out.alloc HB.out.size _).trans hb7); clear hm7 hg7 hb7 hat7 hown7)
          go_roundw
          case rel => exact ⟨m + 1, A7, c7, by omega, by omega, rfl, by
            have e : (bl ++ List.replicate (m + 1 - n) 0).map bv = (bl ++ List.replicate (m - n) 0).map bv ++ [.int .u8 0] := by
              rw [show m + 1 - n = (m - n) + 1 by omega, List.replicate_succ', ← List.append_assoc, List.map_append]
              rfl
            rw [e]
            exact HM7.out, HB7.out⟩
          case measure => simp [lenV]; omega
end Go.Proofs.Ytifbbbphoponcaa.Dr
