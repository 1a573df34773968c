/-
  dir: Get.
-/
import Derived.Test.YtifbbbphoponcaaDir7
import Derived.Test.YtifbbbphoponcaaWire5
namespace Go.Proofs.Ytifbbbphoponcaa.Dr
open Go.RowKit Wd Wi
set_option linter.unusedVariables false
attribute [local go_sem] str_toList str_append str_size

theorem Gives.ent {P : Program} {w : World} {t ty e et : TypeId} {i : TypeInfo} {z : Value} (ht : P.underlying t = some (.slice e)) (hi : P.info? e = some i) (hz : i.zero = some z) (hsz : i.size = 2) (x : En) :
    Gives P (w.alloc (.cells #[.string x.1, .int .i64 x.2] et)) t t ty e i z (.slice (some ⟨w.heap.size, 0, none⟩) 1 1) 1 (ecs [x]) := by
  refine Gives.src ht hi hz ?_
  rw [hsz]
  refine Src.ofSlice _ ht _ 1 1 (ecs [x]) rfl (fun j v hj => ?_) (ecs_one [x])
  rw [Addr.add_lit, cell_of_row _ _ _ _ et (0, 0) (heap_alloc_new w _), Nat.zero_add]
  simpa [ecs] using hj
/-- the k-th entry of bytes -/
def getE (b : List UInt8) (k : Nat) : En := (str (tS b (32 * k) 20), ((leN (seg b (32 * k + 21) 1) : Nat) : Int))
def getTo (b : List UInt8) (k : Nat) : List En := (List.range k).map (getE b)
theorem getTo_len (b : List UInt8) (k : Nat) : (getTo b k).length = k := by simp [getTo]
theorem getTo_succ (b : List UInt8) (k : Nat) : getTo b (k + 1) = getTo b k ++ [getE b k] := by simp [getTo, List.range_succ]
/-- there is a k-th one -/
def runs (b : List UInt8) (k : Nat) : Prop := 32 * k + 32 ≤ b.length ∧ (b.getD (32 * k) 0).toNat ≠ 0
theorem tS_len (b : List UInt8) (a k : Nat) : (tS b a k).length ≤ 255 := by
  unfold tS
  split
  · unfold seg
    rw [List.length_take]
    have := UInt8.toNat_lt (b.getD a 0)
    omega
  · simp
theorem getE_good (b : List UInt8) (k : Nat) : goodE (getE b k) := by
  have h1 := tS_len b (32 * k) 20
  have h2 := leN_lt (seg b (32 * k + 21) 1)
  have h3 : (seg b (32 * k + 21) 1).length ≤ 1 := by unfold seg; rw [List.length_take]; omega
  have h4 : 256 ^ (seg b (32 * k + 21) 1).length ≤ 256 ^ 1 := Nat.pow_le_pow_right (by decide) h3
  unfold goodE getE
  simp only [str_size]
  omega
theorem getTo_good (b : List UInt8) (k : Nat) : ∀ x ∈ getTo b k, goodE x := by
  intro x hx
  obtain ⟨i, _, rfl⟩ := List.mem_map.1 hx
  exact getE_good b i
/-- what Get answers -/
def GetR (w : World) (b : List UInt8) (e : Ending) (w' : World) : Prop :=
  ∃ k, k ≤ 65 ∧ (∀ j, j < k → runs b j) ∧ (runs b k → 64 < k) ∧ Below w.heap.size w w' ∧
    ((checkB (getTo b k) = true ∧ putL (getTo b k) = b ∧ ∃ A c, e = .returned (.tuple #[.slice A (getTo b k).length c, .bool true]) ∧ Sl w' w'.heap.size 2 A (getTo b k).length (ecs (getTo b k)) ∧ (getTo b k).length ≤ c ∧ c ≤ maxLen) ∨
     (¬ (checkB (getTo b k) = true ∧ putL (getTo b k) = b) ∧ e = .returned (.tuple #[.slice none 0 0, .bool false])))

set_option maxHeartbeats 3200000 in
theorem get_any (A : Option Addr) (l : List UInt8) (c : Nat) (w : World) (hs : Sl w w.heap.size 1 A l.length (l.map bv)) (hc : l.length ≤ c) (hcm : c ≤ maxLen) (hk : l.length ≤ 140737488351232) :
    Calls Try.prog 14 #[.slice A l.length c] w (GetR w l) := by
  obtain ⟨i0, hi, hz0, hz1, hz2⟩ := info_parts infoEnt
  have HS := Lib.hid hs
  have HCM := Lib.hid hcm
  clear hs hcm
  go_enter Try.func14, Try.ntmps14
  go_wp2_with fail
  go_loopw [4, 5] (fun lv av wr => ∃ (k p : Nat), k ≤ 65 ∧ p = 32 * k ∧ p ≤ l.length ∧ (∀ j, j < k → runs l j) ∧ av = .int .i64 (p : Int) ∧ wr.ownsRow w.heap.size 40 2 lv k (ecs (getTo l k)) ∧ Below w.heap.size w wr) (fun _ av _ => l.length - (intOf av).toNat)
  case atStart => exact ⟨0, 0, by omega, rfl, by omega, fun j hj => absurd hj (Nat.not_lt_zero j), rfl, World.ownsRow_nil _ _ _ _, Below.refl _ _⟩
  case round =>
    obtain ⟨k, p, hk65, hp, hpl, hr, rfl, hown, hbel⟩ := hrel
    have HP := Lib.hid hp
    have HR := Lib.hid hr
    have HO := Lib.hid hown
    have HB := Lib.hid hbel
    have hsz := hbel.size
    obtain ⟨Al, cl, rfl, hkc, hcl, hsl⟩ := Mine.form (.inr hown)
    have HSL := Lib.hid hsl
    clear hr hown hbel hsl hp
    have hp0 : (0 : Int) ≤ (p : Int) := by omega
    by_cases h1 : p + 32 ≤ l.length
    · have h1I : (p : Int) + 32 ≤ (l.length : Int) := by omega
      have hA : ∃ b off, A = some ⟨b, off, none⟩ ∧ b < w.heap.size := by
        obtain ⟨b, off, e, hb, _⟩ := HS.out.at (by omega) (by decide)
        exact ⟨b, off, e, hb⟩
      obtain ⟨b, off, rfl, hb0⟩ := hA
      have hplt : (p : Int) < (l.length : Int) := by omega
      have hcell : wr.cell? ⟨b, off + p, none⟩ = some (.int .u8 ((l.getD p 0).toNat : Int)) := by
        obtain ⟨b', off', e, hb', hcc⟩ := HS.out.at (by omega) (by decide)
        injection e with e
        injection e with e1 e2
        subst e1; subst e2
        refine (Below.cell HB.out (p := ⟨b, off + p, none⟩) hb').trans (hcc p _ ?_)
        rw [bv_at l p (by omega), List.getD_eq_getElem?_getD, List.getElem?_eq_getElem (by omega)]
        rfl
      obtain ⟨y, hy⟩ : ∃ y, y = (l.getD p 0).toNat := ⟨_, rfl⟩
      rw [← hy] at hcell
      by_cases h2 : y = 0
      · have h2b : ((y : Int) != 0) = false := by rw [h2]; rfl
        have HSTOP : Hid (runs l k → 64 < k) := Lib.hid fun h => absurd (by rw [← HP.out, ← hy]; exact h2) h.2
        clear hy h2
        go_wp2_with fail
        have HLG : Hid ((getTo l k).length = k) := Lib.hid (getTo_len l k)
        have HGG := Lib.hid (getTo_good l k)
        have hsl2 := HSL.out
        obtain ⟨g, hg⟩ : ∃ g, g = getTo l k := ⟨_, rfl⟩
        rw [← hg] at hsl2 HLG HGG
        obtain ⟨m, hm⟩ : ∃ m, m = g.length := ⟨_, rfl⟩
        have hmk : m = k := by rw [hm]; exact HLG.out
        subst hmk
        have HSG := Lib.hid hsl2
        have HG := Lib.hid hg
        have HM := Lib.hid hm
        clear hsl2 hg hm HLG HSL HO
        cases hch : checkB g
        · have PN := Lib.hid (put_no Al g cl wr (by rw [← HM.out]; exact HSG.out) HGG.out (by rw [← HM.out]; omega) hch)
          rw [← HM.out] at PN
          have HCH := Lib.hid hch
          clear hch
          refine PN.out.mono ?_
          rintro e w4 ⟨rfl, hb4⟩
          have HB4 := Lib.hid (HB.out.trans (Below.mono hb4 hsz))
          clear hb4
          go_wp2_with fail
          go_ret2
          exact ⟨m, hk65, HR.out, HSTOP.out, HB4.out, .inr ⟨fun h => (by rw [← HG.out, HCH.out] at h; cases h.1), rfl⟩⟩
        · have PY := Lib.hid (put_yes Al g cl wr (by rw [← HM.out]; exact HSG.out) HGG.out hch)
          rw [← HM.out] at PY
          have HCH := Lib.hid hch
          clear hch
          refine PY.out.mono ?_
          rintro e w4 ⟨A4, c4, rfl, hs4, hc4, hm4, hb4⟩
          have HB4 := Lib.hid (HB.out.trans (Below.mono hb4 hsz))
          have HS0 := Lib.hid ((HS.out.on (Nat.le_refl _) HB.out).on (Nat.le_refl _) hb4)
          have HSG4 := Lib.hid (HSG.out.on (Nat.le_refl _) hb4)
          have HS4 := Lib.hid hs4
          clear hb4 hs4
          by_cases he : putL g = l
          · have heb : ((putL g) == l) = true := by simpa using he
            have HE := Lib.hid he
            clear he
            go_wp2_with (first
              | ((with_reducible show wpList _ _ _ (⟨some 60, _, _, _, _, _⟩ :: _) _ _); refine wpList_convert_sl rfl _ _ 5 _ rfl Try.underlying23 Try.underlying5 Try.underlying9 _ _ _ (putL g) rfl HS4.out rfl ?_)
              | ((with_reducible show wpList _ _ _ (⟨some 62, _, _, _, _, _⟩ :: _) _ _); refine wpList_convert_sl rfl _ _ 5 _ rfl Try.underlying23 Try.underlying5 Try.underlying9 _ _ _ l rfl HS0.out rfl ?_))
            go_ret2
            refine ⟨m, hk65, HR.out, HSTOP.out, HB4.out, .inl ⟨by rw [← HG.out]; exact HCH.out, by rw [← HG.out]; exact HE.out, Al, cl, ?_, ?_, ?_, hcl⟩⟩
            · rw [← HG.out, ← HM.out]
              rfl
            · rw [← HG.out, ← HM.out]
              exact HSG4.out
            · rw [← HG.out, ← HM.out]
              exact hkc
          · have heb : ((putL g) == l) = false := by simpa using he
            have HE := Lib.hid he
            clear he
            go_wp2_with (first
              | ((with_reducible show wpList _ _ _ (⟨some 60, _, _, _, _, _⟩ :: _) _ _); refine wpList_convert_sl rfl _ _ 5 _ rfl Try.underlying23 Try.underlying5 Try.underlying9 _ _ _ (putL g) rfl HS4.out rfl ?_)
              | ((with_reducible show wpList _ _ _ (⟨some 62, _, _, _, _, _⟩ :: _) _ _); refine wpList_convert_sl rfl _ _ 5 _ rfl Try.underlying23 Try.underlying5 Try.underlying9 _ _ _ l rfl HS0.out rfl ?_))
            go_ret2
            exact ⟨m, hk65, HR.out, HSTOP.out, HB4.out, .inr ⟨fun h => HE.out (by rw [HG.out]; exact h.2), rfl⟩⟩
      · have h2b : ((y : Int) != 0) = true := by rw [bne_iff_ne]; omega
        have HRK : Hid (runs l k) := Lib.hid ⟨by rw [← HP.out]; omega, by rw [← HP.out, ← hy]; exact h2⟩
        clear hy h2
        by_cases h3 : k ≤ 64
        · have h3I : (k : Int) ≤ 64 := by omega
          have hgood := getE_good l k
          have hge : (str (tS l (p : Int).toNat (20 : Int).toNat), ((leN (seg l ((p : Int) + 20 + 1).toNat (1 : Int).toNat) : Nat) : Int)) = getE l k := by
            unfold getE
            rw [← HP.out, show ((p : Int) + 20 + 1).toNat = p + 21 by omega, Int.toNat_natCast]
            rfl
          have e1 := congrArg Prod.fst hge
          have e2 := congrArg Prod.snd hge
          simp only at e1 e2
          obtain ⟨x, hx⟩ : ∃ x, x = getE l k := ⟨_, rfl⟩
          rw [← hx] at e1 e2
          have HX := Lib.hid hx
          have E1 := Lib.hid e1
          have E2 := Lib.hid e2
          clear e1 e2 hx hge hgood
          go_wp2_with fail
          refine (gtext_yes _ l c (p : Int) 20 wr (HS.out.on (Nat.le_refl _) HB.out) hc HCM.out hp0 (by decide) (by decide) (by omega)).mono ?_
          rintro e w' ⟨rfl, rfl⟩
          rw [E1.out]
          go_wp2_with fail
          refine (get_yes _ l c _ 1 wr (HS.out.on (Nat.le_refl _) HB.out) hc HCM.out (by omega) (by decide) (by decide) (by omega)).mono ?_
          rintro e w' ⟨rfl, rfl⟩
          rw [E2.out]
          go_wp2_with (at_builtin; refine wpList_append_mine rfl (.tmp 45) (.tmp 49) _ _ rfl w.heap.size 40 i0 (.agg #[.string ByteArray.empty, .int .i64 0]) 2 24 hz1 hz2 rfl (by decide) _ _ _ rfl (Mine.alloc (.inr HO.out) _) _ 1 (ecs [x]) rfl (Gives.ent Try.underlying22 hi hz0 hz1 x) (by simp only [maxLen]; omega) (by omega) (by simp; omega) ?_; intro A5 c5 w5 hm5 hg5 hb5 hat5 hown5)
          have ho5 := hown5 (.inl (by decide))
          have HO5 := Lib.hid ho5
          have HB5 := Lib.hid ((HB.out.alloc hsz _).trans hb5)
          clear ho5 hown5 hat5 hg5 hm5 hb5
          go_wp2_with fail
          go_roundw
          case rel => exact ⟨k + 1, p + 32, by omega, by have := HP.out; omega, by omega, fun j hj => by
            by_cases hjk : j < k
            · exact HR.out j hjk
            · obtain rfl : j = k := by omega
              exact HRK.out, by go_num, by rw [getTo_succ, ecs_append, ← HX.out]; exact HO5.out, HB5.out⟩
          case measure => simp [intOf]; omega
        · have h3I : (64 : Int) < (k : Int) := by omega
          have HSTOP : Hid (runs l k → 64 < k) := Lib.hid fun h => by omega
          clear HRK
          go_wp2_with fail
          have HLG : Hid ((getTo l k).length = k) := Lib.hid (getTo_len l k)
          have HGG := Lib.hid (getTo_good l k)
          have hsl2 := HSL.out
          obtain ⟨g, hg⟩ : ∃ g, g = getTo l k := ⟨_, rfl⟩
          rw [← hg] at hsl2 HLG HGG
          obtain ⟨m, hm⟩ : ∃ m, m = g.length := ⟨_, rfl⟩
          have hmk : m = k := by rw [hm]; exact HLG.out
          subst hmk
          have HSG := Lib.hid hsl2
          have HG := Lib.hid hg
          have HM := Lib.hid hm
          clear hsl2 hg hm HLG HSL HO
          cases hch : checkB g
          · have PN := Lib.hid (put_no Al g cl wr (by rw [← HM.out]; exact HSG.out) HGG.out (by rw [← HM.out]; omega) hch)
            rw [← HM.out] at PN
            have HCH := Lib.hid hch
            clear hch
            refine PN.out.mono ?_
            rintro e w4 ⟨rfl, hb4⟩
            have HB4 := Lib.hid (HB.out.trans (Below.mono hb4 hsz))
            clear hb4
            go_wp2_with fail
            go_ret2
            exact ⟨m, hk65, HR.out, HSTOP.out, HB4.out, .inr ⟨fun h => (by rw [← HG.out, HCH.out] at h; cases h.1), rfl⟩⟩
          · have PY := Lib.hid (put_yes Al g cl wr (by rw [← HM.out]; exact HSG.out) HGG.out hch)
            rw [← HM.out] at PY
            have HCH := Lib.hid hch
            clear hch
            refine PY.out.mono ?_
            rintro e w4 ⟨A4, c4, rfl, hs4, hc4, hm4, hb4⟩
            have HB4 := Lib.hid (HB.out.trans (Below.mono hb4 hsz))
            have HS0 := Lib.hid ((HS.out.on (Nat.le_refl _) HB.out).on (Nat.le_refl _) hb4)
            have HSG4 := Lib.hid (HSG.out.on (Nat.le_refl _) hb4)
            have HS4 := Lib.hid hs4
            clear hb4 hs4
            by_cases he : putL g = l
            · have heb : ((putL g) == l) = true := by simpa using he
              have HE := Lib.hid he
              clear he
              go_wp2_with (first
                | ((with_reducible show wpList _ _ _ (⟨some 60, _, _, _, _, _⟩ :: _) _ _); refine wpList_convert_sl rfl _ _ 5 _ rfl Try.underlying23 Try.underlying5 Try.underlying9 _ _ _ (putL g) rfl HS4.out rfl ?_)
                | ((with_reducible show wpList _ _ _ (⟨some 62, _, _, _, _, _⟩ :: _) _ _); refine wpList_convert_sl rfl _ _ 5 _ rfl Try.underlying23 Try.underlying5 Try.underlying9 _ _ _ l rfl HS0.out rfl ?_))
              go_ret2
              refine ⟨m, hk65, HR.out, HSTOP.out, HB4.out, .inl ⟨by rw [← HG.out]; exact HCH.out, by rw [← HG.out]; exact HE.out, Al, cl, ?_, ?_, ?_, hcl⟩⟩
              · rw [← HG.out, ← HM.out]
                rfl
              · rw [← HG.out, ← HM.out]
                exact HSG4.out
              · rw [← HG.out, ← HM.out]
                exact hkc
            · have heb : ((putL g) == l) = false := by simpa using he
              have HE := Lib.hid he
              clear he
              go_wp2_with (first
                | ((with_reducible show wpList _ _ _ (⟨some 60, _, _, _, _, _⟩ :: _) _ _); refine wpList_convert_sl rfl _ _ 5 _ rfl Try.underlying23 Try.underlying5 Try.underlying9 _ _ _ (putL g) rfl HS4.out rfl ?_)
                | ((with_reducible show wpList _ _ _ (⟨some 62, _, _, _, _, _⟩ :: _) _ _); refine wpList_convert_sl rfl _ _ 5 _ rfl Try.underlying23 Try.underlying5 Try.underlying9 _ _ _ l rfl HS0.out rfl ?_))
              go_ret2
              exact ⟨m, hk65, HR.out, HSTOP.out, HB4.out, .inr ⟨fun h => HE.out (by rw [HG.out]; exact h.2), rfl⟩⟩
    · have h1I : (l.length : Int) < (p : Int) + 32 := by omega
      have HSTOP : Hid (runs l k → 64 < k) := Lib.hid fun h => by
        have := h.1
        have := HP.out
        omega
      go_wp2_with fail
      have HLG : Hid ((getTo l k).length = k) := Lib.hid (getTo_len l k)
      have HGG := Lib.hid (getTo_good l k)
      have hsl2 := HSL.out
      obtain ⟨g, hg⟩ : ∃ g, g = getTo l k := ⟨_, rfl⟩
      rw [← hg] at hsl2 HLG HGG
      obtain ⟨m, hm⟩ : ∃ m, m = g.length := ⟨_, rfl⟩
      have hmk : m = k := by rw [hm]; exact HLG.out
      subst hmk
      have HSG := Lib.hid hsl2
      have HG := Lib.hid hg
      have HM := Lib.hid hm
      clear hsl2 hg hm HLG HSL HO
      cases hch : checkB g
      · have PN := Lib.hid (put_no Al g cl wr (by rw [← HM.out]; exact HSG.out) HGG.out (by rw [← HM.out]; omega) hch)
        rw [← HM.out] at PN
        have HCH := Lib.hid hch
        clear hch
        refine PN.out.mono ?_
        rintro e w4 ⟨rfl, hb4⟩
        have HB4 := Lib.hid (HB.out.trans (Below.mono hb4 hsz))
        clear hb4
        go_wp2_with fail
        go_ret2
        exact ⟨m, hk65, HR.out, HSTOP.out, HB4.out, .inr ⟨fun h => (by rw [← HG.out, HCH.out] at h; cases h.1), rfl⟩⟩
      · have PY := Lib.hid (put_yes Al g cl wr (by rw [← HM.out]; exact HSG.out) HGG.out hch)
        rw [← HM.out] at PY
        have HCH := Lib.hid hch
        clear hch
        refine PY.out.mono ?_
        rintro e w4 ⟨A4, c4, rfl, hs4, hc4, hm4, hb4⟩
        have HB4 := Lib.hid (HB.out.trans (Below.mono hb4 hsz))
        have HS0 := Lib.hid ((HS.out.on (Nat.le_refl _) HB.out).on (Nat.le_refl _) hb4)
        have HSG4 := Lib.hid (HSG.out.on (Nat.le_refl _) hb4)
        have HS4 := Lib.hid hs4
        clear hb4 hs4
        by_cases he : putL g = l
        · have heb : ((putL g) == l) = true := by simpa using he
          have HE := Lib.hid he
          clear he
          go_wp2_with (first
            | ((with_reducible show wpList _ _ _ (⟨some 60, _, _, _, _, _⟩ :: _) _ _); refine wpList_convert_sl rfl _ _ 5 _ rfl Try.underlying23 Try.underlying5 Try.underlying9 _ _ _ (putL g) rfl HS4.out rfl ?_)
            | ((with_reducible show wpList _ _ _ (⟨some 62, _, _, _, _, _⟩ :: _) _ _); refine wpList_convert_sl rfl _ _ 5 _ rfl Try.underlying23 Try.underlying5 Try.underlying9 _ _ _ l rfl HS0.out rfl ?_))
          go_ret2
          refine ⟨m, hk65, HR.out, HSTOP.out, HB4.out, .inl ⟨by rw [← HG.out]; exact HCH.out, by rw [← HG.out]; exact HE.out, Al, cl, ?_, ?_, ?_, hcl⟩⟩
          · rw [← HG.out, ← HM.out]
            rfl
          · rw [← HG.out, ← HM.out]
            exact HSG4.out
          · rw [← HG.out, ← HM.out]
            exact hkc
        · have heb : ((putL g) == l) = false := by simpa using he
          have HE := Lib.hid he
          clear he
          go_wp2_with (first
            | ((with_reducible show wpList _ _ _ (⟨some 60, _, _, _, _, _⟩ :: _) _ _); refine wpList_convert_sl rfl _ _ 5 _ rfl Try.underlying23 Try.underlying5 Try.underlying9 _ _ _ (putL g) rfl HS4.out rfl ?_)
            | ((with_reducible show wpList _ _ _ (⟨some 62, _, _, _, _, _⟩ :: _) _ _); refine wpList_convert_sl rfl _ _ 5 _ rfl Try.underlying23 Try.underlying5 Try.underlying9 _ _ _ l rfl HS0.out rfl ?_))
          go_ret2
          exact ⟨m, hk65, HR.out, HSTOP.out, HB4.out, .inr ⟨fun h => HE.out (by rw [HG.out]; exact h.2), rfl⟩⟩
end Go.Proofs.Ytifbbbphoponcaa.Dr
