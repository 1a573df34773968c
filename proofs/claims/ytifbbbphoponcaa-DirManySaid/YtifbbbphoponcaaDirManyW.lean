/-
  'DirMany' walked: names that come in any order stand by bytes; as many as there may be, and not one more.
-/
import Derived.Test.YtifbbbphoponcaaDir18
import Derived.Test.YtifbbbphoponcaaDirUndoesW
import Derived.Test.YtifbbbphoponcaaRely
namespace Go.Proofs.Ytifbbbphoponcaa.Dr
open Go.RowKit Wd Wi
set_option linter.unusedVariables false
set_option linter.unusedSimpArgs false
attribute [local go_sem] str_toList
section
variable {Q : Exit → Act → World → Prop} {o : Oper}
theorem wp_build_two {a : Act} {w : World} {K : Act → World → Prop} {x y : Operand} (ho : o.op = .buildSlice 23 2 #[(0, x), (1, y)]) {p q : Int} (hx : a.eval x = .int .u8 p) (hy : a.eval y = .int .u8 q)
    (h : K (a.put o.dst (.slice (some ⟨w.heap.size, 0, none⟩) 2 2)) (w.alloc (.cells #[.int .u8 p, .int .u8 q] 5))) : Oper.wp Try.prog o a w K Q := by
  have hr : (execOp a.eval o).run Try.prog w = .ok (.value (.slice (some ⟨w.heap.size, 0, none⟩) 2 2)) (w.alloc (.cells #[.int .u8 p, .int .u8 q] 5)) := by
    clear h
    unfold execOp
    generalize a.eval = ρ at *
    simp [ho, hx, hy, go_sem]
  unfold Oper.wp
  rw [hr]
  exact h
end
theorem two_new (w : World) (p q : Int) (hp : 0 ≤ p) (hp2 : p < 256) (hq : 0 ≤ q) (hq2 : q < 256) : Sl (w.alloc (.cells #[.int .u8 p, .int .u8 q] 5)) (w.alloc (.cells #[.int .u8 p, .int .u8 q] 5)).heap.size 1 (some ⟨w.heap.size, 0, none⟩) 2 ([UInt8.ofNat p.toNat, UInt8.ofNat q.toNat].map bv) := by
  have h := Sl.newRow w [.int .u8 p, .int .u8 q] 5 2 rfl
  rw [List.map_cons, List.map_cons, List.map_nil, bv_of p hp hp2, bv_of q hq hq2]
  exact h
theorem nm_bytes (k : Nat) : (⟨#[110]⟩ : ByteArray) ++ str [UInt8.ofNat (97 + (k : Int) / 26).toNat, UInt8.ofNat (97 + (k : Int) % 26).toNat] = nm k := by
  have h1 : (97 + (k : Int) / 26).toNat = 97 + k / 26 := by omega
  have h2 : (97 + (k : Int) % 26).toNat = 97 + k % 26 := by omega
  rw [h1, h2, show (⟨#[110]⟩ : ByteArray) = str [110] from rfl, str_append]
  rfl
set_option maxRecDepth 100000 in
set_option maxHeartbeats 3200000 in
theorem many_walk (A : Option Addr) (l : List Int) (c : Nat) (w : World) (hs : Sl w w.heap.size 1 A l.length (l.map (Value.int .i64))) (hc : l.length ≤ c) (hk : l.length ≤ 17592186044416) (hb : ∀ x ∈ l, -9223372036854775808 ≤ x ∧ x ≤ 9223372036854775807) :
    Calls Try.prog 6 #[.slice A l.length c] w fun e w' => e = .returned (.bool true) ∧ Below w.heap.size w w' := by
  have HS := Lib.hid hs
  have HBD := Lib.hid hb
  clear hs hb
  go_enter Try.func6, Try.ntmps6
  go_wp2_with ((with_reducible show wpList _ _ _ (⟨some 4, _, _, _, _, _⟩ :: _) _ _); refine wpList_alloc_arr rfl rfl ?_; intro w1 hr1 hb1 hlt1)
  have HR1 := Lib.hid hr1
  have HB1 := Lib.hid hb1
  clear hr1 hb1
  go_loopw [3, 5, 6] (fun lv cv iv wr => ∃ (i : Nat) (L : List En) (A3 : Option Addr) (c3 : Nat), i ≤ 150 ∧ i ≤ l.length ∧ iv = .int .i64 (i : Int) ∧ cv = .int .i64 (L.length : Int) ∧ lv = .slice A3 L.length c3 ∧ L.length ≤ c3 ∧ GoodL L ∧ L.length ≤ 64 ∧ Sl wr wr.heap.size 2 A3 L.length (ecs L) ∧ (∀ ad, A3 = some ad → w.heap.size < ad.block) ∧ NRow wr w.heap.size (arrL L) ∧ Below w.heap.size w wr ∧ w.heap.size < wr.heap.size) (fun _ _ iv _ => 150 - (intOf iv).toNat)
  case atStart => exact ⟨0, [], none, 0, by omega, by omega, rfl, rfl, rfl, Nat.le_refl _, GoodL.nil, by simp, Sl.nil none, (fun ad h => by cases h), HR1.out, HB1.out, hlt1⟩
  case round =>
    clear HR1 HB1 hlt1
    obtain ⟨i, L, A3, c3, hi150, hil, rfl, rfl, rfl, hc3, hgood, hl64, hsl, hfr, harr, hbel, hlt⟩ := hrel
    have HG := Lib.hid hgood
    have HL := Lib.hid hsl
    have HF := Lib.hid hfr
    have HA := Lib.hid harr
    have HB := Lib.hid hbel
    have hcntL : (L.length : Int) ≤ 64 := by omega
    clear hgood hsl hfr harr hbel
    by_cases h1 : i < l.length ∧ i < 150
    · have hiI : (i : Int) < (l.length : Int) := by omega
      have hi150I : (i : Int) < 150 := by omega
      have hi0 : (0 : Int) ≤ (i : Int) := by omega
      obtain ⟨z, hz⟩ : ∃ z, l[i]? = some z := ⟨_, List.getElem?_eq_getElem h1.1⟩
      obtain ⟨hz1, hz2⟩ := HBD.out z (List.mem_of_getElem? hz)
      have hA : ∃ b off, A = some ⟨b, off, none⟩ ∧ wr.cell? ⟨b, off + i, none⟩ = some (.int .i64 z) := by
        obtain ⟨b, off, e, hb, hcc⟩ := HS.out.at (by omega) (by decide)
        exact ⟨b, off, e, (Below.cell HB.out (p := ⟨b, off + i, none⟩) hb).trans (hcc i _ (by rw [List.getElem?_map, hz]; rfl))⟩
      obtain ⟨b, off, rfl, hcell⟩ := hA
      have PL := Lib.hid (fun w => Wi.place_any z 676 w (by decide) (by decide) hz1 hz2)
      obtain ⟨k, hk'⟩ : ∃ k : Nat, placeZ z 676 = (k : Int) := ⟨(placeZ z 676).toNat, by have := place_bd z 676 (by decide); omega⟩
      have hkb : k < 676 := by have := place_bd z 676 (by decide); omega
      rw [hk'] at PL
      have hkI : (k : Int) < 676 := by omega
      have hk0 : (0 : Int) ≤ (k : Int) := by omega
      clear hz hk'
      go_wp2_with fail
      refine (PL.out _).mono ?_
      rintro e w' ⟨rfl, rfl⟩
      clear hcell
      have hb2 := two_new wr (97 + (k : Int) / 26) (97 + (k : Int) % 26) (by omega) (by omega) (by omega) (by omega)
      have hbw : ∀ w : World, Sl (w.alloc (.cells #[.int .u8 (97 + (k : Int) / 26), .int .u8 (97 + (k : Int) % 26)] 5)) (w.alloc (.cells #[.int .u8 (97 + (k : Int) / 26), .int .u8 (97 + (k : Int) % 26)] 5)).heap.size 1 (some ⟨w.heap.size, 0, none⟩) 2 ([UInt8.ofNat (97 + (k : Int) / 26).toNat, UInt8.ofNat (97 + (k : Int) % 26).toNat].map bv) := fun w => two_new w _ _ (by omega) (by omega) (by omega) (by omega)
      have hnm := nm_bytes k
      obtain ⟨BB, hBB⟩ : ∃ BB, BB = [UInt8.ofNat (97 + (k : Int) / 26).toNat, UInt8.ofNat (97 + (k : Int) % 26).toNat] := ⟨_, rfl⟩
      rw [← hBB] at hbw hnm
      have HBB := Lib.hid hbw
      have HSB : Hid ((⟨#[110]⟩ : ByteArray).size + (str BB).size ≤ 9223372036854775807) := Lib.hid (by rw [hBB]; show (3 : Nat) ≤ _; decide)
      obtain ⟨s, hsn⟩ : ∃ s, s = nm k := ⟨_, rfl⟩
      rw [← hsn] at hnm
      have HNM := Lib.hid hnm
      clear hnm
      have ADD : Hid (∀ w, Sl w w.heap.size 2 A3 L.length (ecs L) → Calls Try.prog 25 #[.slice A3 L.length c3, .agg #[.string s, .int .i64 (1 + (k : Int) % 47)]] w (ResF w (addV L (en k)))) := Lib.hid (fun w h => by
        have h2 := add_new A3 L c3 (en k) w h hc3 HG.out.1 (by omega) (by
          have := may_size (nm_may k hkb)
          exact ⟨by omega, by omega, by omega⟩)
        have e : ev (en k) = .agg #[.string s, .int .i64 (1 + (k : Int) % 47)] := by
          show Value.agg #[.string (nm k), .int .i64 ((1 + k % 47 : Nat) : Int)] = _
          rw [hsn, show ((1 + k % 47 : Nat) : Int) = 1 + (k : Int) % 47 by omega]
        rw [e] at h2
        exact h2)
      obtain ⟨v, hv⟩ : ∃ v, v = arr L k := ⟨_, rfl⟩
      have HAV : Hid ((arrL L)[k]? = some v) := Lib.hid (by rw [hv]; exact arrL_at L hkb)
      have hmay := nm_may k hkb
      clear hb2 hbw hBB
      cases hh : has L (nm k)
      · have hv0 : (v : Int) ≤ 0 := by rw [hv]; unfold arr; rw [hh]; simp
        by_cases h64 : 64 ≤ L.length
        · have h64I : (64 : Int) ≤ (L.length : Int) := by omega
          have hV : addV L (en k) = ([], 5) := by unfold addV; rw [hmay, show (en k).1 = nm k from rfl, hh]; simp [h64]
          rw [hV] at ADD
          clear hV hh hv hmay hsn
          go_wp2_with (first
            | ((with_reducible show wpList _ _ _ (⟨some 39, _, _, _, _, _⟩ :: _) _ _); refine wpList_convert_sl rfl _ _ 5 _ rfl Try.underlying23 Try.underlying5 Try.underlying9 _ _ _ BB rfl (HBB.out wr) rfl ?_)
            | ((with_reducible show wpList _ _ _ (⟨some 40, _, _, _, _, _⟩ :: _) _ _); refine wpList_plain rfl fun _ hKK => wp_add_str rfl rfl rfl HSB.out (hKK _ _ ?_); rw [HNM.out]))
          refine (ADD.out _ (HL.out.on (Nat.le_refl _) ((Below.refl _ _).alloc (Nat.le_refl _) _))).mono ?_
          rintro e w5 ⟨A5, c5, rfl, hs5, hc5, hcm5, hb5, hf5⟩
          have HBW := Lib.hid (((Below.refl wr.heap.size wr).alloc (Nat.le_refl _) _).trans (Below.mono hb5 (by simp)))
          have HB5 := Lib.hid (HB.out.trans (Below.mono HBW.out HB.out.size))
          have HA5 := Lib.hid (HA.out.below HBW.out hlt)
          have HL5 := Lib.hid (HL.out.on (Nat.le_refl _) HBW.out)
          have hlt5 : w.heap.size < w5.heap.size := Nat.lt_of_lt_of_le hlt HBW.out.size
          have hcv := HA5.out.cell k v HAV.out
          go_wp2_with fail
          go_roundw
          case rel => exact ⟨i + 1, L, A3, c3, by omega, by omega, by go_num, rfl, rfl, hc3, HG.out, hl64, HL5.out, HF.out, HA5.out, HB5.out, hlt5⟩
          case measure => simp [intOf]; omega
        · have h64I : (L.length : Int) < 64 := by omega
          have hV : addV L (en k) = (ins L (en k), 0) := by unfold addV; rw [hmay, show (en k).1 = nm k from rfl, hh]; simp [h64]
          rw [hV] at ADD
          have hg2 := goodL_ins HG.out hkb (ins_srt HG.out.1 (show has L (en k).1 = false from hh))
          have ha2 := arrL_ins L hkb
          have hl2 := ins_len L (en k)
          generalize ins L (en k) = L2 at *
          have HG2 := Lib.hid hg2
          have HA2 := Lib.hid ha2
          have hla : L2.length ≤ L.length + 1 := by omega
          have hlb : L.length + 1 ≤ L2.length := by omega
          clear hV hh hv hmay hsn hg2 ha2 hl2
          go_wp2_with (first
            | ((with_reducible show wpList _ _ _ (⟨some 39, _, _, _, _, _⟩ :: _) _ _); refine wpList_convert_sl rfl _ _ 5 _ rfl Try.underlying23 Try.underlying5 Try.underlying9 _ _ _ BB rfl (HBB.out wr) rfl ?_)
            | ((with_reducible show wpList _ _ _ (⟨some 40, _, _, _, _, _⟩ :: _) _ _); refine wpList_plain rfl fun _ hKK => wp_add_str rfl rfl rfl HSB.out (hKK _ _ ?_); rw [HNM.out]))
          refine (ADD.out _ (HL.out.on (Nat.le_refl _) ((Below.refl _ _).alloc (Nat.le_refl _) _))).mono ?_
          rintro e w5 ⟨A5, c5, rfl, hs5, hc5, hcm5, hb5, hf5⟩
          have HBW := Lib.hid (((Below.refl wr.heap.size wr).alloc (Nat.le_refl _) _).trans (Below.mono hb5 (by simp)))
          have HB5 := Lib.hid (HB.out.trans (Below.mono HBW.out HB.out.size))
          have HA5 := Lib.hid (HA.out.below HBW.out hlt)
          have HL5 := Lib.hid (HL.out.on (Nat.le_refl _) HBW.out)
          have hlt5 : w.heap.size < w5.heap.size := Nat.lt_of_lt_of_le hlt HBW.out.size
          have hcv := HA5.out.cell k v HAV.out
          have hfz := HA5.out.fz k
          have hL6 := Sl.setOther (i := k) hs5 (fun ad h => Nat.lt_of_lt_of_le hlt (Nat.le_trans (by simp) (hf5 ad h))) (.int .i64 (1 + (k : Int) % 47))
          have HL6 := Lib.hid (hL6.more (B' := (w5.setCell ⟨w.heap.size, k, none⟩ (.int .i64 (1 + (k : Int) % 47))).heap.size) (by simp))
          have hA6 := HA5.out.set k (1 + k % 47) (by rw [arrL_len]; exact hkb)
          rw [← HA2.out, show ((1 + k % 47 : Nat) : Int) = 1 + (k : Int) % 47 by omega] at hA6
          have HA6 := Lib.hid hA6
          have HF6 := Lib.hid (fun ad (h : A5 = some ad) => Nat.lt_of_lt_of_le hlt (Nat.le_trans (by simp) (hf5 ad h)))
          have HB6 := Lib.hid (HB5.out.setCell (p := ⟨w.heap.size, k, none⟩) (Nat.le_refl _) (.int .i64 (1 + (k : Int) % 47)))
          have HLT6 : Hid (w.heap.size < (w5.setCell ⟨w.heap.size, k, none⟩ (.int .i64 (1 + (k : Int) % 47))).heap.size) := Lib.hid (by simp; exact hlt5)
          clear hL6 hA6
          go_wp2_with fail
          go_roundw
          case rel => exact ⟨i + 1, L2, A5, c5, by omega, by omega, by go_num, by go_num, rfl, hc5, HG2.out, by omega, HL6.out, HF6.out, HA6.out, HB6.out, HLT6.out⟩
          case measure => simp [intOf]; omega
      · have hv0 : (0 : Int) < (v : Int) := by rw [hv]; unfold arr; rw [hh, if_pos rfl]; omega
        have hV : addV L (en k) = ([], 6) := by unfold addV; rw [hmay, show (en k).1 = nm k from rfl, hh]; rfl
        rw [hV] at ADD
        clear hV hh hv hmay hsn
        go_wp2_with (first
          | ((with_reducible show wpList _ _ _ (⟨some 39, _, _, _, _, _⟩ :: _) _ _); refine wpList_convert_sl rfl _ _ 5 _ rfl Try.underlying23 Try.underlying5 Try.underlying9 _ _ _ BB rfl (HBB.out wr) rfl ?_)
          | ((with_reducible show wpList _ _ _ (⟨some 40, _, _, _, _, _⟩ :: _) _ _); refine wpList_plain rfl fun _ hKK => wp_add_str rfl rfl rfl HSB.out (hKK _ _ ?_); rw [HNM.out]))
        refine (ADD.out _ (HL.out.on (Nat.le_refl _) ((Below.refl _ _).alloc (Nat.le_refl _) _))).mono ?_
        rintro e w5 ⟨A5, c5, rfl, hs5, hc5, hcm5, hb5, hf5⟩
        have HBW := Lib.hid (((Below.refl wr.heap.size wr).alloc (Nat.le_refl _) _).trans (Below.mono hb5 (by simp)))
        have HB5 := Lib.hid (HB.out.trans (Below.mono HBW.out HB.out.size))
        have HA5 := Lib.hid (HA.out.below HBW.out hlt)
        have HL5 := Lib.hid (HL.out.on (Nat.le_refl _) HBW.out)
        have hlt5 : w.heap.size < w5.heap.size := Nat.lt_of_lt_of_le hlt HBW.out.size
        have hcv := HA5.out.cell k v HAV.out
        go_wp2_with fail
        go_roundw
        case rel => exact ⟨i + 1, L, A3, c3, by omega, by omega, by go_num, rfl, rfl, hc3, HG.out, hl64, HL5.out, HF.out, HA5.out, HB5.out, hlt5⟩
        case measure => simp [intOf]; omega
    · have h2 : l.length ≤ i ∨ (i < l.length ∧ 150 ≤ i) := by omega
      rcases h2 with h2 | ⟨h2, h3⟩
      · have h2I : (l.length : Int) ≤ (i : Int) := by omega
        have hck : checkB L = true := by
          unfold checkB
          rw [okTo_of HG.out.1 (fun x hx => by obtain ⟨k, hk, rfl⟩ := HG.out.2 x hx; exact nm_may k hk), decide_eq_true hl64]
          rfl
        have hgd : ∀ x ∈ L, goodE x := fun x hx => by
          obtain ⟨k, hk, rfl⟩ := HG.out.2 x hx
          have := may_size (nm_may k hk)
          exact ⟨by omega, by omega, by omega⟩
        have hpl := put_len hck
        have PUT := Lib.hid (fun A c w hs => put_yes A L c w hs hgd hck)
        unfold Res2 at PUT
        obtain ⟨PB, hPB⟩ : ∃ PB, PB = putL L := ⟨_, rfl⟩
        rw [← hPB] at PUT hpl
        obtain ⟨nP, hnP⟩ : ∃ nP, nP = PB.length := ⟨_, rfl⟩
        rw [← hnP] at PUT hpl
        obtain ⟨q, hq⟩ : ∃ q, q = (L.length + 3) / 4 := ⟨_, rfl⟩
        have HQI : Hid (((L.length : Int) + 4 - 1) / 4 = (q : Int)) := Lib.hid (by omega)
        have HPE : Hid ((nP : Int) = 128 * (q : Int)) := Lib.hid (by omega)
        have hqs : q ≤ 17 := by omega
        clear hck hgd hpl hPB hnP hq
        go_wp2_with fail
        go_loopw [11, 12] (fun av kv wz => ∃ k : Nat, k ≤ 676 ∧ kv = .int .i64 (k : Int) ∧ av = .int .i64 ((pos L (nm k) : Nat) : Int) ∧ Below wr.heap.size wr wz) (fun _ kv _ => 676 - (intOf kv).toNat)
        case atStart => exact ⟨0, by omega, rfl, by rw [pos_zero HG.out]; rfl, Below.refl _ _⟩
        case round =>
          obtain ⟨k, hk676, rfl, rfl, hbel⟩ := hrel
          have HBZ := Lib.hid hbel
          clear hbel
          obtain ⟨p, hp⟩ : ∃ p, p = pos L (nm k) := ⟨_, rfl⟩
          rw [← hp]
          by_cases hlk : k < 676
          · have hlkI : (k : Int) < 676 := by omega
            have hk0 : (0 : Int) ≤ (k : Int) := by omega
            obtain ⟨v, hv⟩ : ∃ v, v = arr L k := ⟨_, rfl⟩
            have HAZ := Lib.hid (HA.out.below HBZ.out hlt)
            have hcv := HAZ.out.cell k v (by rw [hv]; exact arrL_at L hlk)
            cases hh : has L (nm k)
            · have hvb : (((v : Nat) : Int) == 0) = true := by rw [hv]; unfold arr; rw [hh]; rfl
              have HPN : Hid (pos L (nm (k + 1)) = p) := Lib.hid (by rw [hp]; exact pos_hasnt HG.out hlk hh)
              clear hv hh hp
              go_wp2_with fail
              go_roundw
              case rel => exact ⟨k + 1, by omega, by go_num, by rw [HPN.out], HBZ.out⟩
              case measure => simp [intOf]; omega
            · have hve : v = 1 + k % 47 := by rw [hv]; unfold arr; rw [hh, if_pos rfl]
              have hvb : (((v : Nat) : Int) == 0) = false := by rw [beq_eq_false_iff_ne]; omega
              obtain ⟨hat, hps⟩ := pos_has HG.out hlk hh
              rw [← hp] at hat hps
              have hpl : p < L.length := (List.getElem?_eq_some_iff.1 hat).1
              have hplI : (p : Int) < (L.length : Int) := by omega
              have hp0 : (0 : Int) ≤ (p : Int) := by omega
              have hA3 : ∃ b3 o3, A3 = some ⟨b3, o3, none⟩ := by
                obtain ⟨b3, o3, e, _⟩ := HL.out.at (by omega) (by decide)
                exact ⟨b3, o3, e⟩
              obtain ⟨b3, o3, rfl⟩ := hA3
              obtain ⟨hrx, hb30⟩ := ent_range HL.out hat
              have hrz := range_keep hrx (HBZ.out.block b3 hb30)
              obtain ⟨s, hsn⟩ : ∃ s, s = nm k := ⟨_, rfl⟩
              have HC1 : Hid (wr.cell? ⟨b3, o3 + p * 2, none⟩ = some (.string s)) := Lib.hid (by rw [hsn]; exact range_name hrz)
              have HC2 : Hid (wr.cell? ⟨b3, o3 + p * 2 + 1, none⟩ = some (.int .i64 ((v : Nat) : Int))) := Lib.hid (by rw [hve]; exact range_ino hrz)
              have HC3 := Lib.hid hcv
              have hb3 : b3 < wr.heap.size := Nat.lt_of_lt_of_le hb30 HBZ.out.size
              have hb4 : w.heap.size < wr.heap.size := Nat.lt_of_lt_of_le hlt HBZ.out.size
              have hbw : ∀ w : World, Sl (w.alloc (.cells #[.int .u8 (97 + (k : Int) / 26), .int .u8 (97 + (k : Int) % 26)] 5)) (w.alloc (.cells #[.int .u8 (97 + (k : Int) / 26), .int .u8 (97 + (k : Int) % 26)] 5)).heap.size 1 (some ⟨w.heap.size, 0, none⟩) 2 ([UInt8.ofNat (97 + (k : Int) / 26).toNat, UInt8.ofNat (97 + (k : Int) % 26).toNat].map bv) := fun w => two_new w _ _ (by omega) (by omega) (by omega) (by omega)
              have hnm := nm_bytes k
              obtain ⟨BB, hBB⟩ : ∃ BB, BB = [UInt8.ofNat (97 + (k : Int) / 26).toNat, UInt8.ofNat (97 + (k : Int) % 26).toNat] := ⟨_, rfl⟩
              rw [← hBB] at hbw hnm
              rw [← hsn] at hnm
              have HBB := Lib.hid hbw
              have HNM := Lib.hid hnm
              have HSB : Hid ((⟨#[110]⟩ : ByteArray).size + (str BB).size ≤ 9223372036854775807) := Lib.hid (by rw [hBB]; show (3 : Nat) ≤ _; decide)
              have hq26 : (k : Int).tdiv 26 = (k : Int) / 26 := Int.tdiv_eq_ediv_of_nonneg hk0
              have hr26 : (k : Int).tmod 26 = (k : Int) % 26 := Int.tmod_eq_emod_of_nonneg hk0
              have HPS : Hid (pos L (nm (k + 1)) = p + 1) := Lib.hid hps
              clear hv hh hp hve hat hps hrx hrz hsn hbw hnm hBB
              go_wp2_with fail
              refine wp_region_rely (by kernel_rfl) (fun d u w' => match d with
                | 88 => u = (.int .i64 (p : Int) : Value)
                | 89 => u = (.slice (some ⟨b3, o3, none⟩) L.length c3 : Value)
                | 90 => u = (.int .i64 (L.length : Int) : Value)
                | 91 => u = (.bool false : Value)
                | 92 => u = (.bool false : Value)
                | 93 => u = (.slice (some ⟨b3, o3, none⟩) L.length c3 : Value)
                | 94 => u = (.int .i64 (p : Int) : Value)
                | 95 => u = (.pointer (some ⟨b3, o3 + p * 2, none⟩) : Value)
                | 96 => u = (.pointer (some ⟨b3, o3 + p * 2 + 1, none⟩) : Value)
                | 97 => u = (.int .i64 ((v : Nat) : Int) : Value)
                | 98 => u = (.int .i64 (k : Int) : Value)
                | 99 => u = (.pointer (some ⟨w.heap.size, k, none⟩) : Value)
                | 100 => u = (.int .i64 ((v : Nat) : Int) : Value)
                | 101 => u = (.bool false : Value)
                | 102 => u = (.bool false : Value)
                | 103 => u = (.bool false : Value)
                | 104 => u = (.slice (some ⟨b3, o3, none⟩) L.length c3 : Value)
                | 105 => u = (.int .i64 (p : Int) : Value)
                | 106 => u = (.pointer (some ⟨b3, o3 + p * 2, none⟩) : Value)
                | 107 => u = (.pointer (some ⟨b3, o3 + p * 2, none⟩) : Value)
                | 108 => u = (.string s : Value)
                | 109 => u = (.int .i64 (k : Int) : Value)
                | 110 => u = (.int .i64 ((k : Int) / 26) : Value)
                | 111 => u = (.int .i64 (97 + (k : Int) / 26) : Value)
                | 112 => u = (.int .u8 (97 + (k : Int) / 26) : Value)
                | 113 => u = (.int .i64 (k : Int) : Value)
                | 114 => u = (.int .i64 ((k : Int) % 26) : Value)
                | 115 => u = (.int .i64 (97 + (k : Int) % 26) : Value)
                | 116 => u = (.int .u8 (97 + (k : Int) % 26) : Value)
                | 117 => ∃ g, u = .slice (some ⟨g, 0, none⟩) 2 2 ∧ Sl w' w'.heap.size 1 (some ⟨g, 0, none⟩) 2 (BB.map bv)
                | 118 => u = (.string (str (BB)) : Value)
                | 119 => u = (.string s : Value)
                | 120 => u = (.bool false : Value)
                | 121 => u = (.bool false : Value)
                | _ => True) 150 rfl (by decide +kernel) [121] ?_ ?_
              · refine AllSteps.cons (Step.move _ rfl rfl fun a w' hl => hl.old 11 rfl) ?_
                refine AllSteps.cons (Step.move _ rfl rfl fun a w' hl => hl.old 3 rfl) ?_
                refine AllSteps.cons (Step.plain rfl fun a w' K hl hK => ?_) ?_
                · obtain ⟨_, _, _, h89⟩ := hl.dep 1 89 rfl rfl
                  replace h89 : a.eval (.tmp 89) = _ := h89
                  refine wp_val (.int .i64 (L.length : Int)) ?_ (hK _ _ (Kept.refl _) rfl)
                  clear hl hK
                  generalize a.eval = ρ at *
                  simp [go_sem, h89]
                refine AllSteps.cons (Step.plain rfl fun a w' K hl hK => ?_) ?_
                · obtain ⟨_, _, _, h88⟩ := hl.dep 0 88 rfl rfl
                  replace h88 : a.eval (.tmp 88) = _ := h88
                  obtain ⟨_, _, _, h90⟩ := hl.dep 2 90 rfl rfl
                  replace h90 : a.eval (.tmp 90) = _ := h90
                  refine wp_val (.bool false) ?_ (hK _ _ (Kept.refl _) rfl)
                  clear hl hK
                  generalize a.eval = ρ at *
                  simp [execOp, go_sem, h88, h90]
                  try omega
                refine AllSteps.cons (Step.move _ rfl rfl fun a w' hl => let ⟨_, _, _, h⟩ := hl.dep 3 91 rfl rfl; h) ?_
                refine AllSteps.cons (Step.yes 4 false 92 rfl rfl rfl (fun _ _ h => h) fun a w' K hl hK => ?_) ?_
                · have h3 : a.eval (.tmp 3) = (.slice (some ⟨b3, o3, none⟩) L.length c3 : Value) := hl.old 3 rfl
                  exact wp_val (a.eval (.tmp 3)) rfl (hK _ _ (Kept.refl _) h3)
                refine AllSteps.cons (Step.yes 4 false 92 rfl rfl rfl (fun _ _ h => h) fun a w' K hl hK => ?_) ?_
                · have h11 : a.eval (.tmp 11) = (.int .i64 (p : Int) : Value) := hl.old 11 rfl
                  exact wp_val (a.eval (.tmp 11)) rfl (hK _ _ (Kept.refl _) h11)
                refine AllSteps.cons (Step.yes 4 false 92 rfl rfl rfl (fun _ _ h => h) fun a w' K hl hK => ?_) ?_
                · obtain ⟨_, _, _, h93⟩ := hl.dep 5 93 rfl rfl
                  replace h93 : a.eval (.tmp 93) = _ := h93
                  obtain ⟨_, _, _, h94⟩ := hl.dep 6 94 rfl rfl
                  replace h94 : a.eval (.tmp 94) = _ := h94
                  refine wp_val (.pointer (some ⟨b3, o3 + p * 2, none⟩)) ?_ (hK _ _ (Kept.refl _) rfl)
                  clear hl hK
                  generalize a.eval = ρ at *
                  simp [execOp, go_sem, h93, h94]
                  try exact ⟨by omega, by omega⟩
                  try omega
                refine AllSteps.cons (Step.yes 4 false 92 rfl rfl rfl (fun _ _ h => h) fun a w' K hl hK => ?_) ?_
                · obtain ⟨_, _, _, h95⟩ := hl.dep 7 95 rfl rfl
                  replace h95 : a.eval (.tmp 95) = _ := h95
                  refine wp_val (.pointer (some ⟨b3, o3 + p * 2 + 1, none⟩)) ?_ (hK _ _ (Kept.refl _) rfl)
                  clear hl hK
                  generalize a.eval = ρ at *
                  simp [execOp, go_sem, h95]
                  try exact ⟨by omega, by omega⟩
                  try omega
                refine AllSteps.cons (Step.yes 4 false 92 rfl rfl rfl (fun _ _ h => h) fun a w' K hl hK => ?_) ?_
                · obtain ⟨_, _, _, h96⟩ := hl.dep 8 96 rfl rfl
                  replace h96 : a.eval (.tmp 96) = _ := h96
                  have hcell := (Below.cell hl.kept (p := ⟨b3, o3 + p * 2 + 1, none⟩) hb3).trans HC2.out
                  refine wp_val (.int .i64 ((v : Nat) : Int)) ?_ (hK _ _ (Kept.refl _) rfl)
                  clear hl hK
                  generalize a.eval = ρ at *
                  simp [execOp, go_sem, h96, hcell]
                refine AllSteps.cons (Step.yes 4 false 92 rfl rfl rfl (fun _ _ h => h) fun a w' K hl hK => ?_) ?_
                · have h12 : a.eval (.tmp 12) = (.int .i64 (k : Int) : Value) := hl.old 12 rfl
                  exact wp_val (a.eval (.tmp 12)) rfl (hK _ _ (Kept.refl _) h12)
                refine AllSteps.cons (Step.yes 4 false 92 rfl rfl rfl (fun _ _ h => h) fun a w' K hl hK => ?_) ?_
                · have h4 : a.eval (.tmp 4) = (.pointer (some ⟨w.heap.size, 0, none⟩) : Value) := hl.old 4 rfl
                  obtain ⟨_, _, _, h98⟩ := hl.dep 10 98 rfl rfl
                  replace h98 : a.eval (.tmp 98) = _ := h98
                  refine wp_val (.pointer (some ⟨w.heap.size, k, none⟩)) ?_ (hK _ _ (Kept.refl _) rfl)
                  clear hl hK
                  generalize a.eval = ρ at *
                  simp [execOp, go_sem, h4, h98]
                  try exact ⟨by omega, by omega⟩
                  try omega
                refine AllSteps.cons (Step.yes 4 false 92 rfl rfl rfl (fun _ _ h => h) fun a w' K hl hK => ?_) ?_
                · obtain ⟨_, _, _, h99⟩ := hl.dep 11 99 rfl rfl
                  replace h99 : a.eval (.tmp 99) = _ := h99
                  have hcell := (Below.cell hl.kept (p := ⟨w.heap.size, k, none⟩) hb4).trans HC3.out
                  refine wp_val (.int .i64 ((v : Nat) : Int)) ?_ (hK _ _ (Kept.refl _) rfl)
                  clear hl hK
                  generalize a.eval = ρ at *
                  simp [execOp, go_sem, h99, hcell]
                refine AllSteps.cons (Step.yes 4 false 92 rfl rfl rfl (fun _ _ h => h) fun a w' K hl hK => ?_) ?_
                · obtain ⟨_, _, _, h97⟩ := hl.dep 9 97 rfl rfl
                  replace h97 : a.eval (.tmp 97) = _ := h97
                  obtain ⟨_, _, _, h100⟩ := hl.dep 12 100 rfl rfl
                  replace h100 : a.eval (.tmp 100) = _ := h100
                  refine wp_val (.bool false) ?_ (hK _ _ (Kept.refl _) rfl)
                  clear hl hK
                  generalize a.eval = ρ at *
                  simp [execOp, go_sem, h97, h100]
                refine AllSteps.cons (Step.plain rfl fun a w' K hl hK => ?_) ?_
                · obtain ⟨_, _, _, h92⟩ := hl.dep 4 92 rfl rfl
                  replace h92 : a.eval (.tmp 92) = _ := h92
                  obtain ⟨_, _, _, h101⟩ := hl.dep 13 101 rfl rfl
                  replace h101 : a.eval (.tmp 101) = _ := h101
                  exact wp_pick rfl false h92 (hK _ _ (Kept.refl _) h101)
                refine AllSteps.cons (Step.move _ rfl rfl fun a w' hl => let ⟨_, _, _, h⟩ := hl.dep 14 102 rfl rfl; h) ?_
                refine AllSteps.cons (Step.yes 15 false 103 rfl rfl rfl (fun _ _ h => h) fun a w' K hl hK => ?_) ?_
                · have h3 : a.eval (.tmp 3) = (.slice (some ⟨b3, o3, none⟩) L.length c3 : Value) := hl.old 3 rfl
                  exact wp_val (a.eval (.tmp 3)) rfl (hK _ _ (Kept.refl _) h3)
                refine AllSteps.cons (Step.yes 15 false 103 rfl rfl rfl (fun _ _ h => h) fun a w' K hl hK => ?_) ?_
                · have h11 : a.eval (.tmp 11) = (.int .i64 (p : Int) : Value) := hl.old 11 rfl
                  exact wp_val (a.eval (.tmp 11)) rfl (hK _ _ (Kept.refl _) h11)
                refine AllSteps.cons (Step.yes 15 false 103 rfl rfl rfl (fun _ _ h => h) fun a w' K hl hK => ?_) ?_
                · obtain ⟨_, _, _, h104⟩ := hl.dep 16 104 rfl rfl
                  replace h104 : a.eval (.tmp 104) = _ := h104
                  obtain ⟨_, _, _, h105⟩ := hl.dep 17 105 rfl rfl
                  replace h105 : a.eval (.tmp 105) = _ := h105
                  refine wp_val (.pointer (some ⟨b3, o3 + p * 2, none⟩)) ?_ (hK _ _ (Kept.refl _) rfl)
                  clear hl hK
                  generalize a.eval = ρ at *
                  simp [execOp, go_sem, h104, h105]
                  try exact ⟨by omega, by omega⟩
                  try omega
                refine AllSteps.cons (Step.yes 15 false 103 rfl rfl rfl (fun _ _ h => h) fun a w' K hl hK => ?_) ?_
                · obtain ⟨_, _, _, h106⟩ := hl.dep 18 106 rfl rfl
                  replace h106 : a.eval (.tmp 106) = _ := h106
                  refine wp_val (.pointer (some ⟨b3, o3 + p * 2, none⟩)) ?_ (hK _ _ (Kept.refl _) rfl)
                  clear hl hK
                  generalize a.eval = ρ at *
                  simp [execOp, go_sem, h106]
                  try exact ⟨by omega, by omega⟩
                  try omega
                refine AllSteps.cons (Step.yes 15 false 103 rfl rfl rfl (fun _ _ h => h) fun a w' K hl hK => ?_) ?_
                · obtain ⟨_, _, _, h107⟩ := hl.dep 19 107 rfl rfl
                  replace h107 : a.eval (.tmp 107) = _ := h107
                  have hcell := (Below.cell hl.kept (p := ⟨b3, o3 + p * 2, none⟩) hb3).trans HC1.out
                  refine wp_val (.string s) ?_ (hK _ _ (Kept.refl _) rfl)
                  clear hl hK
                  generalize a.eval = ρ at *
                  simp [execOp, go_sem, h107, hcell]
                refine AllSteps.cons (Step.yes 15 false 103 rfl rfl rfl (fun _ _ h => h) fun a w' K hl hK => ?_) ?_
                · have h12 : a.eval (.tmp 12) = (.int .i64 (k : Int) : Value) := hl.old 12 rfl
                  exact wp_val (a.eval (.tmp 12)) rfl (hK _ _ (Kept.refl _) h12)
                refine AllSteps.cons (Step.yes 15 false 103 rfl rfl rfl (fun _ _ h => h) fun a w' K hl hK => ?_) ?_
                · obtain ⟨_, _, _, h109⟩ := hl.dep 21 109 rfl rfl
                  replace h109 : a.eval (.tmp 109) = _ := h109
                  have hconst : ∀ x, a.eval (.const x) = x := fun _ => rfl
                  refine wp_val (.int .i64 ((k : Int) / 26)) ?_ (hK _ _ (Kept.refl _) rfl)
                  clear hl hK
                  generalize a.eval = ρ at *
                  simp [execOp, go_sem, h109, hconst, hq26, hr26]
                  try (rw [IntKind.wrap_i64]; omega)
                refine AllSteps.cons (Step.yes 15 false 103 rfl rfl rfl (fun _ _ h => h) fun a w' K hl hK => ?_) ?_
                · obtain ⟨_, _, _, h110⟩ := hl.dep 22 110 rfl rfl
                  replace h110 : a.eval (.tmp 110) = _ := h110
                  have hconst : ∀ x, a.eval (.const x) = x := fun _ => rfl
                  refine wp_val (.int .i64 (97 + (k : Int) / 26)) ?_ (hK _ _ (Kept.refl _) rfl)
                  clear hl hK
                  generalize a.eval = ρ at *
                  simp [execOp, go_sem, h110, hconst, hq26, hr26]
                  try (rw [IntKind.wrap_i64]; omega)
                refine AllSteps.cons (Step.yes 15 false 103 rfl rfl rfl (fun _ _ h => h) fun a w' K hl hK => ?_) ?_
                · obtain ⟨_, _, _, h111⟩ := hl.dep 23 111 rfl rfl
                  replace h111 : a.eval (.tmp 111) = _ := h111
                  refine wp_val (.int .u8 (97 + (k : Int) / 26)) ?_ (hK _ _ (Kept.refl _) rfl)
                  clear hl hK
                  generalize a.eval = ρ at *
                  simp [execOp, go_sem, h111]
                  try (simp [IntKind.wrap, IntKind.bits, IntKind.signed]; omega)
                refine AllSteps.cons (Step.yes 15 false 103 rfl rfl rfl (fun _ _ h => h) fun a w' K hl hK => ?_) ?_
                · have h12 : a.eval (.tmp 12) = (.int .i64 (k : Int) : Value) := hl.old 12 rfl
                  exact wp_val (a.eval (.tmp 12)) rfl (hK _ _ (Kept.refl _) h12)
                refine AllSteps.cons (Step.yes 15 false 103 rfl rfl rfl (fun _ _ h => h) fun a w' K hl hK => ?_) ?_
                · obtain ⟨_, _, _, h113⟩ := hl.dep 25 113 rfl rfl
                  replace h113 : a.eval (.tmp 113) = _ := h113
                  have hconst : ∀ x, a.eval (.const x) = x := fun _ => rfl
                  refine wp_val (.int .i64 ((k : Int) % 26)) ?_ (hK _ _ (Kept.refl _) rfl)
                  clear hl hK
                  generalize a.eval = ρ at *
                  simp [execOp, go_sem, h113, hconst, hq26, hr26]
                  try (rw [IntKind.wrap_i64]; omega)
                refine AllSteps.cons (Step.yes 15 false 103 rfl rfl rfl (fun _ _ h => h) fun a w' K hl hK => ?_) ?_
                · obtain ⟨_, _, _, h114⟩ := hl.dep 26 114 rfl rfl
                  replace h114 : a.eval (.tmp 114) = _ := h114
                  have hconst : ∀ x, a.eval (.const x) = x := fun _ => rfl
                  refine wp_val (.int .i64 (97 + (k : Int) % 26)) ?_ (hK _ _ (Kept.refl _) rfl)
                  clear hl hK
                  generalize a.eval = ρ at *
                  simp [execOp, go_sem, h114, hconst, hq26, hr26]
                  try (rw [IntKind.wrap_i64]; omega)
                refine AllSteps.cons (Step.yes 15 false 103 rfl rfl rfl (fun _ _ h => h) fun a w' K hl hK => ?_) ?_
                · obtain ⟨_, _, _, h115⟩ := hl.dep 27 115 rfl rfl
                  replace h115 : a.eval (.tmp 115) = _ := h115
                  refine wp_val (.int .u8 (97 + (k : Int) % 26)) ?_ (hK _ _ (Kept.refl _) rfl)
                  clear hl hK
                  generalize a.eval = ρ at *
                  simp [execOp, go_sem, h115]
                  try (simp [IntKind.wrap, IntKind.bits, IntKind.signed]; omega)
                refine AllSteps.cons (Step.yes 15 false 103 rfl rfl rfl (fun _ _ h => h) fun a w' K hl hK => ?_) ?_
                · obtain ⟨_, _, _, h112⟩ := hl.dep 24 112 rfl rfl
                  replace h112 : a.eval (.tmp 112) = _ := h112
                  obtain ⟨_, _, _, h116⟩ := hl.dep 28 116 rfl rfl
                  replace h116 : a.eval (.tmp 116) = _ := h116
                  exact wp_build_two rfl h112 h116 (hK _ _ ((Below.refl _ _).alloc (Nat.le_refl _) _) ⟨w'.heap.size, rfl, HBB.out w'⟩)
                refine AllSteps.cons (Step.yes 15 false 103 rfl rfl rfl (fun _ _ h => h) fun a w' K hl hK => ?_) ?_
                · obtain ⟨_, w1, hk1, g, h117, hs117⟩ := hl.dep 29 117 rfl rfl
                  exact wp_conv rfl Try.underlying23 Try.underlying5 Try.underlying9 h117 (hs117.on (Nat.le_refl _) hk1) (hK _ _ (Kept.refl _) rfl)
                refine AllSteps.cons (Step.yes 15 false 103 rfl rfl rfl (fun _ _ h => h) fun a w' K hl hK => ?_) ?_
                · obtain ⟨_, _, _, h118⟩ := hl.dep 30 118 rfl rfl
                  replace h118 : a.eval (.tmp 118) = _ := h118
                  exact wp_add_str rfl rfl h118 HSB.out (hK _ _ (Kept.refl _) (congrArg Value.string HNM.out))
                refine AllSteps.cons (Step.yes 15 false 103 rfl rfl rfl (fun _ _ h => h) fun a w' K hl hK => ?_) ?_
                · obtain ⟨_, _, _, h108⟩ := hl.dep 20 108 rfl rfl
                  replace h108 : a.eval (.tmp 108) = _ := h108
                  obtain ⟨_, _, _, h119⟩ := hl.dep 31 119 rfl rfl
                  replace h119 : a.eval (.tmp 119) = _ := h119
                  exact wp_neq_str rfl h108 h119 _ (by simp) (hK _ _ (Kept.refl _) rfl)
                refine AllSteps.cons (Step.plain rfl fun a w' K hl hK => ?_) ?_
                · obtain ⟨_, _, _, h103⟩ := hl.dep 15 103 rfl rfl
                  replace h103 : a.eval (.tmp 103) = _ := h103
                  obtain ⟨_, _, _, h120⟩ := hl.dep 32 120 rfl rfl
                  replace h120 : a.eval (.tmp 120) = _ := h120
                  exact wp_pick rfl false h103 (hK _ _ (Kept.refl _) h120)
                exact AllSteps.nil
              · intro f w9 hk9 hf
                obtain ⟨_, _, hres⟩ := hf 121 rfl rfl
                replace hres : f 121 = .bool false := hres
                simp only [fill, dsts, List.filterMap_cons, List.filterMap_nil, List.foldl_cons, List.foldl_nil, Act.put, hres, List.setIfInBounds_toArray, List.set_cons_succ, List.set_cons_zero]
                clear hf
                have HB9 := Lib.hid (HBZ.out.trans (Below.mono hk9 HBZ.out.size))
                clear hk9 hcv
                go_wp2_with fail
                go_roundw
                case rel => exact ⟨k + 1, by omega, by go_num, by rw [HPS.out]; go_num, HB9.out⟩
                case measure => simp [intOf]; omega
          · have hge : (676 : Int) ≤ (k : Int) := by omega
            obtain rfl : k = 676 := by omega
            obtain rfl : p = L.length := by rw [hp]; exact pos_all HG.out
            have hqI := HQI.out
            have hpe := HPE.out
            have HBW := Lib.hid (HB.out.trans (Below.mono HBZ.out HB.out.size))
            clear hp
            go_wp2_with fail
            refine (PUT.out _ _ _ (HL.out.on (Nat.le_refl _) HBZ.out)).mono ?_
            rintro e w7 ⟨A7, c7, rfl, hs7, hc7, hm7, hb7⟩
            have HB7 := Lib.hid (HBW.out.trans (Below.mono hb7 HBW.out.size))
            clear hs7 hc7 hm7 hb7
            go_wp2_with fail
            refine (awake_any _).mono ?_
            rintro e w8 ⟨rfl, hb8⟩
            have HB8 := Lib.hid (HB7.out.trans (Below.mono hb8 HB7.out.size))
            go_wp2_with fail
            go_ret
            exact ⟨rfl, HB8.out⟩
      · have h2I : (i : Int) < (l.length : Int) := by omega
        have h3I : (150 : Int) ≤ (i : Int) := by omega
        have hck : checkB L = true := by
          unfold checkB
          rw [okTo_of HG.out.1 (fun x hx => by obtain ⟨k, hk, rfl⟩ := HG.out.2 x hx; exact nm_may k hk), decide_eq_true hl64]
          rfl
        have hgd : ∀ x ∈ L, goodE x := fun x hx => by
          obtain ⟨k, hk, rfl⟩ := HG.out.2 x hx
          have := may_size (nm_may k hk)
          exact ⟨by omega, by omega, by omega⟩
        have hpl := put_len hck
        have PUT := Lib.hid (fun A c w hs => put_yes A L c w hs hgd hck)
        unfold Res2 at PUT
        obtain ⟨PB, hPB⟩ : ∃ PB, PB = putL L := ⟨_, rfl⟩
        rw [← hPB] at PUT hpl
        obtain ⟨nP, hnP⟩ : ∃ nP, nP = PB.length := ⟨_, rfl⟩
        rw [← hnP] at PUT hpl
        obtain ⟨q, hq⟩ : ∃ q, q = (L.length + 3) / 4 := ⟨_, rfl⟩
        have HQI : Hid (((L.length : Int) + 4 - 1) / 4 = (q : Int)) := Lib.hid (by omega)
        have HPE : Hid ((nP : Int) = 128 * (q : Int)) := Lib.hid (by omega)
        have hqs : q ≤ 17 := by omega
        clear hck hgd hpl hPB hnP hq
        go_wp2_with fail
        go_loopw [11, 12] (fun av kv wz => ∃ k : Nat, k ≤ 676 ∧ kv = .int .i64 (k : Int) ∧ av = .int .i64 ((pos L (nm k) : Nat) : Int) ∧ Below wr.heap.size wr wz) (fun _ kv _ => 676 - (intOf kv).toNat)
        case atStart => exact ⟨0, by omega, rfl, by rw [pos_zero HG.out]; rfl, Below.refl _ _⟩
        case round =>
          obtain ⟨k, hk676, rfl, rfl, hbel⟩ := hrel
          have HBZ := Lib.hid hbel
          clear hbel
          obtain ⟨p, hp⟩ : ∃ p, p = pos L (nm k) := ⟨_, rfl⟩
          rw [← hp]
          by_cases hlk : k < 676
          · have hlkI : (k : Int) < 676 := by omega
            have hk0 : (0 : Int) ≤ (k : Int) := by omega
            obtain ⟨v, hv⟩ : ∃ v, v = arr L k := ⟨_, rfl⟩
            have HAZ := Lib.hid (HA.out.below HBZ.out hlt)
            have hcv := HAZ.out.cell k v (by rw [hv]; exact arrL_at L hlk)
            cases hh : has L (nm k)
            · have hvb : (((v : Nat) : Int) == 0) = true := by rw [hv]; unfold arr; rw [hh]; rfl
              have HPN : Hid (pos L (nm (k + 1)) = p) := Lib.hid (by rw [hp]; exact pos_hasnt HG.out hlk hh)
              clear hv hh hp
              go_wp2_with fail
              go_roundw
              case rel => exact ⟨k + 1, by omega, by go_num, by rw [HPN.out], HBZ.out⟩
              case measure => simp [intOf]; omega
            · have hve : v = 1 + k % 47 := by rw [hv]; unfold arr; rw [hh, if_pos rfl]
              have hvb : (((v : Nat) : Int) == 0) = false := by rw [beq_eq_false_iff_ne]; omega
              obtain ⟨hat, hps⟩ := pos_has HG.out hlk hh
              rw [← hp] at hat hps
              have hpl : p < L.length := (List.getElem?_eq_some_iff.1 hat).1
              have hplI : (p : Int) < (L.length : Int) := by omega
              have hp0 : (0 : Int) ≤ (p : Int) := by omega
              have hA3 : ∃ b3 o3, A3 = some ⟨b3, o3, none⟩ := by
                obtain ⟨b3, o3, e, _⟩ := HL.out.at (by omega) (by decide)
                exact ⟨b3, o3, e⟩
              obtain ⟨b3, o3, rfl⟩ := hA3
              obtain ⟨hrx, hb30⟩ := ent_range HL.out hat
              have hrz := range_keep hrx (HBZ.out.block b3 hb30)
              obtain ⟨s, hsn⟩ : ∃ s, s = nm k := ⟨_, rfl⟩
              have HC1 : Hid (wr.cell? ⟨b3, o3 + p * 2, none⟩ = some (.string s)) := Lib.hid (by rw [hsn]; exact range_name hrz)
              have HC2 : Hid (wr.cell? ⟨b3, o3 + p * 2 + 1, none⟩ = some (.int .i64 ((v : Nat) : Int))) := Lib.hid (by rw [hve]; exact range_ino hrz)
              have HC3 := Lib.hid hcv
              have hb3 : b3 < wr.heap.size := Nat.lt_of_lt_of_le hb30 HBZ.out.size
              have hb4 : w.heap.size < wr.heap.size := Nat.lt_of_lt_of_le hlt HBZ.out.size
              have hbw : ∀ w : World, Sl (w.alloc (.cells #[.int .u8 (97 + (k : Int) / 26), .int .u8 (97 + (k : Int) % 26)] 5)) (w.alloc (.cells #[.int .u8 (97 + (k : Int) / 26), .int .u8 (97 + (k : Int) % 26)] 5)).heap.size 1 (some ⟨w.heap.size, 0, none⟩) 2 ([UInt8.ofNat (97 + (k : Int) / 26).toNat, UInt8.ofNat (97 + (k : Int) % 26).toNat].map bv) := fun w => two_new w _ _ (by omega) (by omega) (by omega) (by omega)
              have hnm := nm_bytes k
              obtain ⟨BB, hBB⟩ : ∃ BB, BB = [UInt8.ofNat (97 + (k : Int) / 26).toNat, UInt8.ofNat (97 + (k : Int) % 26).toNat] := ⟨_, rfl⟩
              rw [← hBB] at hbw hnm
              rw [← hsn] at hnm
              have HBB := Lib.hid hbw
              have HNM := Lib.hid hnm
              have HSB : Hid ((⟨#[110]⟩ : ByteArray).size + (str BB).size ≤ 9223372036854775807) := Lib.hid (by rw [hBB]; show (3 : Nat) ≤ _; decide)
              have hq26 : (k : Int).tdiv 26 = (k : Int) / 26 := Int.tdiv_eq_ediv_of_nonneg hk0
              have hr26 : (k : Int).tmod 26 = (k : Int) % 26 := Int.tmod_eq_emod_of_nonneg hk0
              have HPS : Hid (pos L (nm (k + 1)) = p + 1) := Lib.hid hps
              clear hv hh hp hve hat hps hrx hrz hsn hbw hnm hBB
              go_wp2_with fail
              refine wp_region_rely (by kernel_rfl) (fun d u w' => match d with
                | 88 => u = (.int .i64 (p : Int) : Value)
                | 89 => u = (.slice (some ⟨b3, o3, none⟩) L.length c3 : Value)
                | 90 => u = (.int .i64 (L.length : Int) : Value)
                | 91 => u = (.bool false : Value)
                | 92 => u = (.bool false : Value)
                | 93 => u = (.slice (some ⟨b3, o3, none⟩) L.length c3 : Value)
                | 94 => u = (.int .i64 (p : Int) : Value)
                | 95 => u = (.pointer (some ⟨b3, o3 + p * 2, none⟩) : Value)
                | 96 => u = (.pointer (some ⟨b3, o3 + p * 2 + 1, none⟩) : Value)
                | 97 => u = (.int .i64 ((v : Nat) : Int) : Value)
                | 98 => u = (.int .i64 (k : Int) : Value)
                | 99 => u = (.pointer (some ⟨w.heap.size, k, none⟩) : Value)
                | 100 => u = (.int .i64 ((v : Nat) : Int) : Value)
                | 101 => u = (.bool false : Value)
                | 102 => u = (.bool false : Value)
                | 103 => u = (.bool false : Value)
                | 104 => u = (.slice (some ⟨b3, o3, none⟩) L.length c3 : Value)
                | 105 => u = (.int .i64 (p : Int) : Value)
                | 106 => u = (.pointer (some ⟨b3, o3 + p * 2, none⟩) : Value)
                | 107 => u = (.pointer (some ⟨b3, o3 + p * 2, none⟩) : Value)
                | 108 => u = (.string s : Value)
                | 109 => u = (.int .i64 (k : Int) : Value)
                | 110 => u = (.int .i64 ((k : Int) / 26) : Value)
                | 111 => u = (.int .i64 (97 + (k : Int) / 26) : Value)
                | 112 => u = (.int .u8 (97 + (k : Int) / 26) : Value)
                | 113 => u = (.int .i64 (k : Int) : Value)
                | 114 => u = (.int .i64 ((k : Int) % 26) : Value)
                | 115 => u = (.int .i64 (97 + (k : Int) % 26) : Value)
                | 116 => u = (.int .u8 (97 + (k : Int) % 26) : Value)
                | 117 => ∃ g, u = .slice (some ⟨g, 0, none⟩) 2 2 ∧ Sl w' w'.heap.size 1 (some ⟨g, 0, none⟩) 2 (BB.map bv)
                | 118 => u = (.string (str (BB)) : Value)
                | 119 => u = (.string s : Value)
                | 120 => u = (.bool false : Value)
                | 121 => u = (.bool false : Value)
                | _ => True) 150 rfl (by decide +kernel) [121] ?_ ?_
              · refine AllSteps.cons (Step.move _ rfl rfl fun a w' hl => hl.old 11 rfl) ?_
                refine AllSteps.cons (Step.move _ rfl rfl fun a w' hl => hl.old 3 rfl) ?_
                refine AllSteps.cons (Step.plain rfl fun a w' K hl hK => ?_) ?_
                · obtain ⟨_, _, _, h89⟩ := hl.dep 1 89 rfl rfl
                  replace h89 : a.eval (.tmp 89) = _ := h89
                  refine wp_val (.int .i64 (L.length : Int)) ?_ (hK _ _ (Kept.refl _) rfl)
                  clear hl hK
                  generalize a.eval = ρ at *
                  simp [go_sem, h89]
                refine AllSteps.cons (Step.plain rfl fun a w' K hl hK => ?_) ?_
                · obtain ⟨_, _, _, h88⟩ := hl.dep 0 88 rfl rfl
                  replace h88 : a.eval (.tmp 88) = _ := h88
                  obtain ⟨_, _, _, h90⟩ := hl.dep 2 90 rfl rfl
                  replace h90 : a.eval (.tmp 90) = _ := h90
                  refine wp_val (.bool false) ?_ (hK _ _ (Kept.refl _) rfl)
                  clear hl hK
                  generalize a.eval = ρ at *
                  simp [execOp, go_sem, h88, h90]
                  try omega
                refine AllSteps.cons (Step.move _ rfl rfl fun a w' hl => let ⟨_, _, _, h⟩ := hl.dep 3 91 rfl rfl; h) ?_
                refine AllSteps.cons (Step.yes 4 false 92 rfl rfl rfl (fun _ _ h => h) fun a w' K hl hK => ?_) ?_
                · have h3 : a.eval (.tmp 3) = (.slice (some ⟨b3, o3, none⟩) L.length c3 : Value) := hl.old 3 rfl
                  exact wp_val (a.eval (.tmp 3)) rfl (hK _ _ (Kept.refl _) h3)
                refine AllSteps.cons (Step.yes 4 false 92 rfl rfl rfl (fun _ _ h => h) fun a w' K hl hK => ?_) ?_
                · have h11 : a.eval (.tmp 11) = (.int .i64 (p : Int) : Value) := hl.old 11 rfl
                  exact wp_val (a.eval (.tmp 11)) rfl (hK _ _ (Kept.refl _) h11)
                refine AllSteps.cons (Step.yes 4 false 92 rfl rfl rfl (fun _ _ h => h) fun a w' K hl hK => ?_) ?_
                · obtain ⟨_, _, _, h93⟩ := hl.dep 5 93 rfl rfl
                  replace h93 : a.eval (.tmp 93) = _ := h93
                  obtain ⟨_, _, _, h94⟩ := hl.dep 6 94 rfl rfl
                  replace h94 : a.eval (.tmp 94) = _ := h94
                  refine wp_val (.pointer (some ⟨b3, o3 + p * 2, none⟩)) ?_ (hK _ _ (Kept.refl _) rfl)
                  clear hl hK
                  generalize a.eval = ρ at *
                  simp [execOp, go_sem, h93, h94]
                  try exact ⟨by omega, by omega⟩
                  try omega
                refine AllSteps.cons (Step.yes 4 false 92 rfl rfl rfl (fun _ _ h => h) fun a w' K hl hK => ?_) ?_
                · obtain ⟨_, _, _, h95⟩ := hl.dep 7 95 rfl rfl
                  replace h95 : a.eval (.tmp 95) = _ := h95
                  refine wp_val (.pointer (some ⟨b3, o3 + p * 2 + 1, none⟩)) ?_ (hK _ _ (Kept.refl _) rfl)
                  clear hl hK
                  generalize a.eval = ρ at *
                  simp [execOp, go_sem, h95]
                  try exact ⟨by omega, by omega⟩
                  try omega
                refine AllSteps.cons (Step.yes 4 false 92 rfl rfl rfl (fun _ _ h => h) fun a w' K hl hK => ?_) ?_
                · obtain ⟨_, _, _, h96⟩ := hl.dep 8 96 rfl rfl
                  replace h96 : a.eval (.tmp 96) = _ := h96
                  have hcell := (Below.cell hl.kept (p := ⟨b3, o3 + p * 2 + 1, none⟩) hb3).trans HC2.out
                  refine wp_val (.int .i64 ((v : Nat) : Int)) ?_ (hK _ _ (Kept.refl _) rfl)
                  clear hl hK
                  generalize a.eval = ρ at *
                  simp [execOp, go_sem, h96, hcell]
                refine AllSteps.cons (Step.yes 4 false 92 rfl rfl rfl (fun _ _ h => h) fun a w' K hl hK => ?_) ?_
                · have h12 : a.eval (.tmp 12) = (.int .i64 (k : Int) : Value) := hl.old 12 rfl
                  exact wp_val (a.eval (.tmp 12)) rfl (hK _ _ (Kept.refl _) h12)
                refine AllSteps.cons (Step.yes 4 false 92 rfl rfl rfl (fun _ _ h => h) fun a w' K hl hK => ?_) ?_
                · have h4 : a.eval (.tmp 4) = (.pointer (some ⟨w.heap.size, 0, none⟩) : Value) := hl.old 4 rfl
                  obtain ⟨_, _, _, h98⟩ := hl.dep 10 98 rfl rfl
                  replace h98 : a.eval (.tmp 98) = _ := h98
                  refine wp_val (.pointer (some ⟨w.heap.size, k, none⟩)) ?_ (hK _ _ (Kept.refl _) rfl)
                  clear hl hK
                  generalize a.eval = ρ at *
                  simp [execOp, go_sem, h4, h98]
                  try exact ⟨by omega, by omega⟩
                  try omega
                refine AllSteps.cons (Step.yes 4 false 92 rfl rfl rfl (fun _ _ h => h) fun a w' K hl hK => ?_) ?_
                · obtain ⟨_, _, _, h99⟩ := hl.dep 11 99 rfl rfl
                  replace h99 : a.eval (.tmp 99) = _ := h99
                  have hcell := (Below.cell hl.kept (p := ⟨w.heap.size, k, none⟩) hb4).trans HC3.out
                  refine wp_val (.int .i64 ((v : Nat) : Int)) ?_ (hK _ _ (Kept.refl _) rfl)
                  clear hl hK
                  generalize a.eval = ρ at *
                  simp [execOp, go_sem, h99, hcell]
                refine AllSteps.cons (Step.yes 4 false 92 rfl rfl rfl (fun _ _ h => h) fun a w' K hl hK => ?_) ?_
                · obtain ⟨_, _, _, h97⟩ := hl.dep 9 97 rfl rfl
                  replace h97 : a.eval (.tmp 97) = _ := h97
                  obtain ⟨_, _, _, h100⟩ := hl.dep 12 100 rfl rfl
                  replace h100 : a.eval (.tmp 100) = _ := h100
                  refine wp_val (.bool false) ?_ (hK _ _ (Kept.refl _) rfl)
                  clear hl hK
                  generalize a.eval = ρ at *
                  simp [execOp, go_sem, h97, h100]
                refine AllSteps.cons (Step.plain rfl fun a w' K hl hK => ?_) ?_
                · obtain ⟨_, _, _, h92⟩ := hl.dep 4 92 rfl rfl
                  replace h92 : a.eval (.tmp 92) = _ := h92
                  obtain ⟨_, _, _, h101⟩ := hl.dep 13 101 rfl rfl
                  replace h101 : a.eval (.tmp 101) = _ := h101
                  exact wp_pick rfl false h92 (hK _ _ (Kept.refl _) h101)
                refine AllSteps.cons (Step.move _ rfl rfl fun a w' hl => let ⟨_, _, _, h⟩ := hl.dep 14 102 rfl rfl; h) ?_
                refine AllSteps.cons (Step.yes 15 false 103 rfl rfl rfl (fun _ _ h => h) fun a w' K hl hK => ?_) ?_
                · have h3 : a.eval (.tmp 3) = (.slice (some ⟨b3, o3, none⟩) L.length c3 : Value) := hl.old 3 rfl
                  exact wp_val (a.eval (.tmp 3)) rfl (hK _ _ (Kept.refl _) h3)
                refine AllSteps.cons (Step.yes 15 false 103 rfl rfl rfl (fun _ _ h => h) fun a w' K hl hK => ?_) ?_
                · have h11 : a.eval (.tmp 11) = (.int .i64 (p : Int) : Value) := hl.old 11 rfl
                  exact wp_val (a.eval (.tmp 11)) rfl (hK _ _ (Kept.refl _) h11)
                refine AllSteps.cons (Step.yes 15 false 103 rfl rfl rfl (fun _ _ h => h) fun a w' K hl hK => ?_) ?_
                · obtain ⟨_, _, _, h104⟩ := hl.dep 16 104 rfl rfl
                  replace h104 : a.eval (.tmp 104) = _ := h104
                  obtain ⟨_, _, _, h105⟩ := hl.dep 17 105 rfl rfl
                  replace h105 : a.eval (.tmp 105) = _ := h105
                  refine wp_val (.pointer (some ⟨b3, o3 + p * 2, none⟩)) ?_ (hK _ _ (Kept.refl _) rfl)
                  clear hl hK
                  generalize a.eval = ρ at *
                  simp [execOp, go_sem, h104, h105]
                  try exact ⟨by omega, by omega⟩
                  try omega
                refine AllSteps.cons (Step.yes 15 false 103 rfl rfl rfl (fun _ _ h => h) fun a w' K hl hK => ?_) ?_
                · obtain ⟨_, _, _, h106⟩ := hl.dep 18 106 rfl rfl
                  replace h106 : a.eval (.tmp 106) = _ := h106
                  refine wp_val (.pointer (some ⟨b3, o3 + p * 2, none⟩)) ?_ (hK _ _ (Kept.refl _) rfl)
                  clear hl hK
                  generalize a.eval = ρ at *
                  simp [execOp, go_sem, h106]
                  try exact ⟨by omega, by omega⟩
                  try omega
                refine AllSteps.cons (Step.yes 15 false 103 rfl rfl rfl (fun _ _ h => h) fun a w' K hl hK => ?_) ?_
                · obtain ⟨_, _, _, h107⟩ := hl.dep 19 107 rfl rfl
                  replace h107 : a.eval (.tmp 107) = _ := h107
                  have hcell := (Below.cell hl.kept (p := ⟨b3, o3 + p * 2, none⟩) hb3).trans HC1.out
                  refine wp_val (.string s) ?_ (hK _ _ (Kept.refl _) rfl)
                  clear hl hK
                  generalize a.eval = ρ at *
                  simp [execOp, go_sem, h107, hcell]
                refine AllSteps.cons (Step.yes 15 false 103 rfl rfl rfl (fun _ _ h => h) fun a w' K hl hK => ?_) ?_
                · have h12 : a.eval (.tmp 12) = (.int .i64 (k : Int) : Value) := hl.old 12 rfl
                  exact wp_val (a.eval (.tmp 12)) rfl (hK _ _ (Kept.refl _) h12)
                refine AllSteps.cons (Step.yes 15 false 103 rfl rfl rfl (fun _ _ h => h) fun a w' K hl hK => ?_) ?_
                · obtain ⟨_, _, _, h109⟩ := hl.dep 21 109 rfl rfl
                  replace h109 : a.eval (.tmp 109) = _ := h109
                  have hconst : ∀ x, a.eval (.const x) = x := fun _ => rfl
                  refine wp_val (.int .i64 ((k : Int) / 26)) ?_ (hK _ _ (Kept.refl _) rfl)
                  clear hl hK
                  generalize a.eval = ρ at *
                  simp [execOp, go_sem, h109, hconst, hq26, hr26]
                  try (rw [IntKind.wrap_i64]; omega)
                refine AllSteps.cons (Step.yes 15 false 103 rfl rfl rfl (fun _ _ h => h) fun a w' K hl hK => ?_) ?_
                · obtain ⟨_, _, _, h110⟩ := hl.dep 22 110 rfl rfl
                  replace h110 : a.eval (.tmp 110) = _ := h110
                  have hconst : ∀ x, a.eval (.const x) = x := fun _ => rfl
                  refine wp_val (.int .i64 (97 + (k : Int) / 26)) ?_ (hK _ _ (Kept.refl _) rfl)
                  clear hl hK
                  generalize a.eval = ρ at *
                  simp [execOp, go_sem, h110, hconst, hq26, hr26]
                  try (rw [IntKind.wrap_i64]; omega)
                refine AllSteps.cons (Step.yes 15 false 103 rfl rfl rfl (fun _ _ h => h) fun a w' K hl hK => ?_) ?_
                · obtain ⟨_, _, _, h111⟩ := hl.dep 23 111 rfl rfl
                  replace h111 : a.eval (.tmp 111) = _ := h111
                  refine wp_val (.int .u8 (97 + (k : Int) / 26)) ?_ (hK _ _ (Kept.refl _) rfl)
                  clear hl hK
                  generalize a.eval = ρ at *
                  simp [execOp, go_sem, h111]
                  try (simp [IntKind.wrap, IntKind.bits, IntKind.signed]; omega)
                refine AllSteps.cons (Step.yes 15 false 103 rfl rfl rfl (fun _ _ h => h) fun a w' K hl hK => ?_) ?_
                · have h12 : a.eval (.tmp 12) = (.int .i64 (k : Int) : Value) := hl.old 12 rfl
                  exact wp_val (a.eval (.tmp 12)) rfl (hK _ _ (Kept.refl _) h12)
                refine AllSteps.cons (Step.yes 15 false 103 rfl rfl rfl (fun _ _ h => h) fun a w' K hl hK => ?_) ?_
                · obtain ⟨_, _, _, h113⟩ := hl.dep 25 113 rfl rfl
                  replace h113 : a.eval (.tmp 113) = _ := h113
                  have hconst : ∀ x, a.eval (.const x) = x := fun _ => rfl
                  refine wp_val (.int .i64 ((k : Int) % 26)) ?_ (hK _ _ (Kept.refl _) rfl)
                  clear hl hK
                  generalize a.eval = ρ at *
                  simp [execOp, go_sem, h113, hconst, hq26, hr26]
                  try (rw [IntKind.wrap_i64]; omega)
                refine AllSteps.cons (Step.yes 15 false 103 rfl rfl rfl (fun _ _ h => h) fun a w' K hl hK => ?_) ?_
                · obtain ⟨_, _, _, h114⟩ := hl.dep 26 114 rfl rfl
                  replace h114 : a.eval (.tmp 114) = _ := h114
                  have hconst : ∀ x, a.eval (.const x) = x := fun _ => rfl
                  refine wp_val (.int .i64 (97 + (k : Int) % 26)) ?_ (hK _ _ (Kept.refl _) rfl)
                  clear hl hK
                  generalize a.eval = ρ at *
                  simp [execOp, go_sem, h114, hconst, hq26, hr26]
                  try (rw [IntKind.wrap_i64]; omega)
                refine AllSteps.cons (Step.yes 15 false 103 rfl rfl rfl (fun _ _ h => h) fun a w' K hl hK => ?_) ?_
                · obtain ⟨_, _, _, h115⟩ := hl.dep 27 115 rfl rfl
                  replace h115 : a.eval (.tmp 115) = _ := h115
                  refine wp_val (.int .u8 (97 + (k : Int) % 26)) ?_ (hK _ _ (Kept.refl _) rfl)
                  clear hl hK
                  generalize a.eval = ρ at *
                  simp [execOp, go_sem, h115]
                  try (simp [IntKind.wrap, IntKind.bits, IntKind.signed]; omega)
                refine AllSteps.cons (Step.yes 15 false 103 rfl rfl rfl (fun _ _ h => h) fun a w' K hl hK => ?_) ?_
                · obtain ⟨_, _, _, h112⟩ := hl.dep 24 112 rfl rfl
                  replace h112 : a.eval (.tmp 112) = _ := h112
                  obtain ⟨_, _, _, h116⟩ := hl.dep 28 116 rfl rfl
                  replace h116 : a.eval (.tmp 116) = _ := h116
                  exact wp_build_two rfl h112 h116 (hK _ _ ((Below.refl _ _).alloc (Nat.le_refl _) _) ⟨w'.heap.size, rfl, HBB.out w'⟩)
                refine AllSteps.cons (Step.yes 15 false 103 rfl rfl rfl (fun _ _ h => h) fun a w' K hl hK => ?_) ?_
                · obtain ⟨_, w1, hk1, g, h117, hs117⟩ := hl.dep 29 117 rfl rfl
                  exact wp_conv rfl Try.underlying23 Try.underlying5 Try.underlying9 h117 (hs117.on (Nat.le_refl _) hk1) (hK _ _ (Kept.refl _) rfl)
                refine AllSteps.cons (Step.yes 15 false 103 rfl rfl rfl (fun _ _ h => h) fun a w' K hl hK => ?_) ?_
                · obtain ⟨_, _, _, h118⟩ := hl.dep 30 118 rfl rfl
                  replace h118 : a.eval (.tmp 118) = _ := h118
                  exact wp_add_str rfl rfl h118 HSB.out (hK _ _ (Kept.refl _) (congrArg Value.string HNM.out))
                refine AllSteps.cons (Step.yes 15 false 103 rfl rfl rfl (fun _ _ h => h) fun a w' K hl hK => ?_) ?_
                · obtain ⟨_, _, _, h108⟩ := hl.dep 20 108 rfl rfl
                  replace h108 : a.eval (.tmp 108) = _ := h108
                  obtain ⟨_, _, _, h119⟩ := hl.dep 31 119 rfl rfl
                  replace h119 : a.eval (.tmp 119) = _ := h119
                  exact wp_neq_str rfl h108 h119 _ (by simp) (hK _ _ (Kept.refl _) rfl)
                refine AllSteps.cons (Step.plain rfl fun a w' K hl hK => ?_) ?_
                · obtain ⟨_, _, _, h103⟩ := hl.dep 15 103 rfl rfl
                  replace h103 : a.eval (.tmp 103) = _ := h103
                  obtain ⟨_, _, _, h120⟩ := hl.dep 32 120 rfl rfl
                  replace h120 : a.eval (.tmp 120) = _ := h120
                  exact wp_pick rfl false h103 (hK _ _ (Kept.refl _) h120)
                exact AllSteps.nil
              · intro f w9 hk9 hf
                obtain ⟨_, _, hres⟩ := hf 121 rfl rfl
                replace hres : f 121 = .bool false := hres
                simp only [fill, dsts, List.filterMap_cons, List.filterMap_nil, List.foldl_cons, List.foldl_nil, Act.put, hres, List.setIfInBounds_toArray, List.set_cons_succ, List.set_cons_zero]
                clear hf
                have HB9 := Lib.hid (HBZ.out.trans (Below.mono hk9 HBZ.out.size))
                clear hk9 hcv
                go_wp2_with fail
                go_roundw
                case rel => exact ⟨k + 1, by omega, by go_num, by rw [HPS.out]; go_num, HB9.out⟩
                case measure => simp [intOf]; omega
          · have hge : (676 : Int) ≤ (k : Int) := by omega
            obtain rfl : k = 676 := by omega
            obtain rfl : p = L.length := by rw [hp]; exact pos_all HG.out
            have hqI := HQI.out
            have hpe := HPE.out
            have HBW := Lib.hid (HB.out.trans (Below.mono HBZ.out HB.out.size))
            clear hp
            go_wp2_with fail
            refine (PUT.out _ _ _ (HL.out.on (Nat.le_refl _) HBZ.out)).mono ?_
            rintro e w7 ⟨A7, c7, rfl, hs7, hc7, hm7, hb7⟩
            have HB7 := Lib.hid (HBW.out.trans (Below.mono hb7 HBW.out.size))
            clear hs7 hc7 hm7 hb7
            go_wp2_with fail
            refine (awake_any _).mono ?_
            rintro e w8 ⟨rfl, hb8⟩
            have HB8 := Lib.hid (HB7.out.trans (Below.mono hb8 HB7.out.size))
            go_wp2_with fail
            go_ret
            exact ⟨rfl, HB8.out⟩
end Go.Proofs.Ytifbbbphoponcaa.Dr
