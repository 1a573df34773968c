/-
  'AllocCounts' walked: what is free then is what was free, less what came, and what went.
-/
import Derived.Test.YtgfhepfikphliaaPlan2
import Derived.Test.YtgfhepfikphliaaAllocPlansW
import Derived.Test.YtgfhepfikphliaaAlloc3
import Derived.Test.YtgfhepfikphliaaPlace
import Derived.Test.YtgfhepfikphliaaRely
namespace Go.Proofs.Ytgfhepfikphliaa.Pn
open Fl Sp Go.RowKit Wd By Bt
set_option linter.unusedVariables false
theorem own_keptB {w w' : World} {B b n s g c : Nat} {e : TypeId} {xs : List Value} (h : w.ownsRow b e s (.slice (some ⟨g, 0, none⟩) n c) n xs) (hb : Below B w w') (hg : g < B) : w'.ownsRow b e s (.slice (some ⟨g, 0, none⟩) n c) n xs := by
  refine ⟨h.1, ?_⟩
  rcases h.2 with hn | ⟨g', cap, cur, hv, hbb, hgg, rest⟩
  · exact .inl hn
  · refine .inr ⟨g', cap, cur, hv, hbb, ?_, rest⟩
    injection hv with hv
    injection hv with hv
    injection hv with hv
    subst hv
    rw [hb.block g hg]
    exact hgg
section
variable {ops : Array Oper} {Q : Exit → Act → World → Prop} {a : Act} {w : World} {rest : List Oper} {o : Oper}
theorem wpList_store_bool (hg : o.guard = none) (x y : Operand) (ho : o.op = .store 4 x y) {g j : Nat} {b0 b : Bool} (h1 : w.cell? ⟨g, j, none⟩ = some (.bool b0)) (h2 : w.frozen? ⟨g, j, none⟩ = false)
    (hx : a.eval x = .pointer (some ⟨g, j, none⟩)) (hy : a.eval y = .bool b) (hK : ∀ w', w' = w.setCell ⟨g, j, none⟩ (.bool b) → wpList Try.prog ops Q rest (a.put o.dst undef) w') : wpList Try.prog ops Q (o :: rest) a w := by
  refine wpList_skipped (by simp [Region.wanted, hg]) (w.setCell ⟨g, j, none⟩ (.bool b)) ?_ (hK _ rfl)
  obtain ⟨i0, hi0, hz0, hz1, hz2⟩ := info_parts infoT
  have h3 : (sizeOf 4).run Try.prog w = .ok 1 w := by unfold sizeOf typeInfo; simp [hi0, hz1]
  clear hK
  unfold execOp
  generalize a.eval = ρ at *
  simp [ho, hx, hy, go_sem, h1, h2, h3]
end
theorem nodup_snoc {l : List Int} {x : Int} (h : l.Nodup) (hx : x ∉ l) : (l ++ [x]).Nodup := by
  rw [List.nodup_append]
  refine ⟨h, by simp, ?_⟩
  intro a ha b hb
  rw [List.mem_singleton.1 hb]
  intro e
  exact hx (e ▸ ha)

set_option maxRecDepth 100000 in
set_option maxHeartbeats 3200000 in
theorem counts_walk (Au : Option Addr) (us : List Int) (cu : Nat) (n : Int) (Ag : Option Addr) (gs : List Int) (cg : Nat) (w : World)
    (hu : Sl w w.heap.size 1 Au us.length (us.map (Value.int .i64))) (hcu : us.length ≤ cu) (hud : us.length ≤ 17592186044416) (hub : ∀ x ∈ us, -9223372036854775808 ≤ x ∧ x ≤ 9223372036854775807)
    (h3 : -9223372036854775808 ≤ n) (h4 : n ≤ 9223372036854775807)
    (hg : Sl w w.heap.size 1 Ag gs.length (gs.map (Value.int .i64))) (hcg : gs.length ≤ cg) (hgd : gs.length ≤ 17592186044416) (hgb : ∀ x ∈ gs, -9223372036854775808 ≤ x ∧ x ≤ 9223372036854775807) :
    Calls Try.prog 7 #[.slice Au us.length cu, .int .i64 n, .slice Ag gs.length cg] w fun e w' => e = .returned (.bool true) ∧ Below w.heap.size w w' := by
  obtain ⟨i0, hi0, hz0, hz1, hz2⟩ := info_parts infoI
  obtain ⟨i1, hi1, hy0, hy1, hy2⟩ := info_parts infoT
  have HU0 := Lib.hid hu
  have HUB := Lib.hid hub
  have HG0 := Lib.hid hg
  have HGB := Lib.hid hgb
  clear hu hub hg hgb
  have PN := Lib.hid (fun w => Pl.place_any n 60 w (by omega) (by omega) h3 h4)
  obtain ⟨p0, p1⟩ := Pl.place_bd n 60 (by omega)
  generalize Pl.placeZ n 60 = kk at *
  clear h3 h4
  obtain ⟨M0, hM0⟩ : ∃ M, M = newL 160 := ⟨_, rfl⟩
  have hl0 := newL_len 160
  have HRN := Lib.hid (fun w => rnew_any 160 w)
  rw [← hM0] at hl0 HRN
  have HMAP : Hid (∀ A w, Sl w w.heap.size 1 A 128 (M0.map bv) → Calls Try.prog 19 #[.slice A 128 128] w (OwnT w (mapF (bitN M0)))) := Lib.hid fun A w hs => rmap_yes A M0 hl0 128 w hs
  have HL0 := Lib.hid hl0
  clear hM0 hl0
  have CFR : Hid (∀ (M : List UInt8), M.length = 128 → ∀ (A : Option Addr) (c : Nat) (w : World), Sl w w.heap.size 1 A 128 (M.map bv) → Calls Try.prog 22 #[.slice A 128 c, .int .i64 160] w fun e w' => ∃ A' c', e = .returned (.slice A' (frees M 160 (top 160)).length c') ∧ Below w.heap.size w w') := Lib.hid fun M hM A c w hs => by
    have := rfrees_any A M c 160 w (by rw [hM]; exact hs) (by omega)
    rw [hM] at this
    refine this.mono ?_
    rintro e w' ⟨A', c', rfl, _, _, _, hb⟩
    exact ⟨A', c', rfl, hb⟩
  go_enter Try.func7, Try.ntmps7
  go_wp2_with fail
  refine (HRN.out _).mono ?_
  rintro e w1 ⟨g1, rfl, ho1, hb1⟩
  have HO1 := Lib.hid (Sl.own ho1)
  have HB1 := Lib.hid hb1
  clear ho1 hb1
  go_wp2_with fail
  refine (HMAP.out _ _ HO1.out).mono ?_
  rintro e w2 ⟨gm, rfl, ho2, hb2⟩
  have hgm := (own_lt ho2 gm rfl).1
  have hgm2 := (own_lt ho2 gm rfl).2
  have HO2 := Lib.hid ho2
  have HB2 := Lib.hid (HB1.out.trans (Below.mono hb2 HB1.out.size))
  have hw1 := HB1.out.size
  have hgmw : w.heap.size ≤ gm := by omega
  have hw2 := HB2.out.size
  clear ho2 hb2
  go_wp2_with fail
  go_loopw [9, 8] (fun iv hv wr => ∃ (i : Nat) (M : List UInt8) (H : List Int), i ≤ us.length ∧ i ≤ 60 ∧ iv = .int .i64 (i : Int) ∧ M.length = 128 ∧ H.length ≤ i ∧ H.Nodup ∧ (∀ h ∈ H, 74 ≤ h ∧ h < 160 ∧ bitN M h.toNat = true) ∧
    wr.ownsRow w.heap.size 4 1 (.slice (some ⟨gm, 0, none⟩) 1024 1024) 1024 ((mapF (bitN M)).map Value.bool) ∧ wr.ownsRow w2.heap.size 3 1 hv H.length (H.map (Value.int .i64)) ∧ Below w.heap.size w wr ∧ w2.heap.size ≤ wr.heap.size) (fun i _ _ => us.length - (intOf i).toNat)
  case atStart => exact ⟨0, M0, [], by omega, by omega, rfl, HL0.out, Nat.le_refl _, List.nodup_nil, by simp, HO2.out.mono hw1, World.ownsRow_nil _ _ _ _, HB2.out, Nat.le_refl _⟩
  case round =>
    obtain ⟨i, M, H, hi, hi60, rfl, hM, hHl, hnd, hH, hownm, hownh, hbel, hsz⟩ := hrel
    have HM := Lib.hid hM
    have HND := Lib.hid hnd
    have HH := Lib.hid hH
    have HOM := Lib.hid hownm
    have HOH := Lib.hid hownh
    have HB := Lib.hid hbel
    clear hM hnd hH hownm hownh hbel
    by_cases hlt : i < us.length ∧ i < 60
    · obtain ⟨hlt, hlt6⟩ := hlt
      have hltI : (i : Int) < (us.length : Int) := by omega
      have hlt6I : (i : Int) < 60 := by omega
      have hin0 : (0 : Int) ≤ (i : Int) := by omega
      obtain ⟨z, hz⟩ : ∃ z, us[i]? = some z := ⟨_, List.getElem?_eq_getElem hlt⟩
      obtain ⟨b1, off1, rfl, hbb1, hcell1⟩ := HU0.out.at (by omega) (by decide)
      have hck1 := (Below.cell HB.out (p := ⟨b1, off1 + i, none⟩) hbb1).trans (hcell1 i (.int .i64 z) (by rw [List.getElem?_map, hz]; rfl))
      obtain ⟨z1, z2⟩ := HUB.out z (List.mem_of_getElem? hz)
      have PZ := Lib.hid (fun w => Pl.place_any z 86 w (by omega) (by omega) z1 z2)
      obtain ⟨q0, q1⟩ := Pl.place_bd z 86 (by omega)
      generalize Pl.placeZ z 86 = q at *
      obtain ⟨q, rfl⟩ := Int.eq_ofNat_of_zero_le q0
      clear hz hbb1 hcell1 z1 z2
      obtain ⟨x, hx⟩ : ∃ x : Nat, x = 74 + q := ⟨_, rfl⟩
      have hxI : (74 : Int) + (q : Int) = (x : Int) := by omega
      have hx1024 : x < 1024 := by omega
      have hx160 : (x : Int) < 160 := by omega
      have hx74 : (74 : Int) ≤ (x : Int) := by omega
      have HXE := Lib.hid hx
      clear hx
      obtain ⟨hcm, hfm⟩ := ownB_there HOM.out x hx1024
      rw [mapF_at _ hx1024] at hcm
      go_wp2_with fail
      refine (PZ.out _).mono ?_
      rintro e w' ⟨rfl, rfl⟩
      cases hb : bitN M x
      · rw [hb] at hcm
        have HMS : Hid ((mapF fun i => if i = x then true else bitN M i) = mapF (bitN (setB M x true))) := Lib.hid (mapF_congr fun i _ => (bit_set HM.out hx1024 true i).symm)
        have hst := ownB_set HOM.out x true
        rw [mapF_set _ hx1024, HMS.out] at hst
        have HST := Lib.hid hst
        have hon6 := Only.setCell gm x wr (.bool true)
        have HON6 := Lib.hid hon6
        have hnot : (x : Int) ∉ H := fun hm => by
          have := (HH.out _ hm).2.2
          rw [Int.toNat_natCast, hb] at this
          cases this
        have HNX := Lib.hid (nodup_snoc HND.out hnot)
        have HHX : Hid (∀ h ∈ H ++ [(x : Int)], 74 ≤ h ∧ h < 160 ∧ bitN (setB M x true) h.toNat = true) := Lib.hid fun h hm => by
          rcases List.mem_append.1 hm with hm | hm
          · obtain ⟨a, b, c⟩ := HH.out h hm
            refine ⟨a, b, ?_⟩
            rw [bit_set HM.out hx1024]
            split
            · rfl
            · exact c
          · rw [List.mem_singleton.1 hm]
            refine ⟨hx74, hx160, ?_⟩
            rw [Int.toNat_natCast, bit_set HM.out hx1024, if_pos rfl]
        clear hst hon6 hnot hb
        go_wp2_with (first
          | ((with_reducible show wpList _ _ _ (⟨none, Op.store _ (.tmp 48) _, _, _, _, _⟩ :: _) _ _); refine wpList_store_bool rfl _ _ rfl hcm hfm rfl rfl ?_; intro w6 hw6; have hon6 := HON6.out; have hst6 := HST.out; rw [← hw6] at hon6 hst6; clear hw6 hcm hfm)
          | (at_builtin; refine wpList_append_mine rfl (.tmp 49) (.tmp 51) _ _ rfl w2.heap.size 3 i0 (.int .i64 0) 1 8 hz1 hz2 rfl (by decide) _ _ _ rfl (Mine.alloc (.inr (own_only HOH.out hon6 hgm2)) _) _ 1 [.int .i64 (x : Int)] rfl (Gives.elem Try.underlying25 hi0 hz0 hz1 _ rfl) (by simp only [maxLen]; omega) (by omega) (by have := hon6.size; simp; omega) ?_; intro A5 c5 w5 hm5 hg5 hb5 hat5 hown5))
        have ho5 := hown5 (.inl (by decide))
        have HO5 := Lib.hid ho5
        have hsz6 : w2.heap.size ≤ w6.heap.size := Nat.le_trans hsz hon6.size
        have HOM5 := Lib.hid (own_keptB (hst6.alloc _) hb5 hgm2)
        have HB5 := Lib.hid (((hon6.below HB.out hgmw).alloc (by omega) _).trans (Below.mono hb5 hw2))
        have hsz5 : w2.heap.size ≤ w5.heap.size := by have := hb5.size; simp at this; omega
        clear ho5 hown5 hat5 hg5 hm5 hb5 hon6 hst6
        go_wp2_with fail
        go_roundw
        case rel => exact ⟨i + 1, setB M x true, H ++ [(x : Int)], by omega, by omega, by go_num, by rw [setB_len]; exact HM.out, by simp; omega, HNX.out, HHX.out, HOM5.out, by simpa using HO5.out, HB5.out, hsz5⟩
        case measure => simp [intOf]; omega
      · rw [hb] at hcm
        clear hb
        go_wp2_with fail
        go_roundw
        case rel => exact ⟨i + 1, M, H, by omega, by omega, by go_num, HM.out, by omega, HND.out, HH.out, HOM.out, HOH.out, HB.out, hsz⟩
        case measure => simp [intOf]; omega
    · rcases (show (i < us.length ∧ 60 ≤ i) ∨ us.length ≤ i by omega) with ⟨hA, hA6⟩ | hA
      · have hAI : (i : Int) < (us.length : Int) := by omega
        have hA6I : (60 : Int) ≤ (i : Int) := by omega
        clear hlt
        obtain ⟨Ah, ch, rfl, hch, _, hsh⟩ := Mine.form (.inr HOH.out)
        have RB := Lib.hid (rbytes_any (some ⟨gm, 0, none⟩) (bitN M) 1024 wr (Sl.own HOM.out))
        rw [bS_back HM.out] at RB
        go_wp2_with fail
        refine RB.out.mono ?_
        rintro e w3 ⟨gb, rfl, ho3, hb3⟩
        have HSB := Lib.hid (Sl.own ho3)
        have HSM := Lib.hid ((Sl.own HOM.out).on (Nat.le_refl _) hb3)
        have HSH := Lib.hid (hsh.on (Nat.le_refl _) hb3)
        have HB3 := Lib.hid (HB.out.trans (Below.mono hb3 HB.out.size))
        have hz3 := HB3.out.size
        clear ho3 hb3 hsh hsz
        go_wp2_with fail
        go_loopw [14, 13] (fun iv tv wr => ∃ i : Nat, i ≤ H.length ∧ iv = .int .i64 (i : Int) ∧ wr.ownsRow w3.heap.size 4 1 tv i ((List.replicate i false).map Value.bool) ∧ Below w3.heap.size w3 wr) (fun i _ _ => H.length - (intOf i).toNat)
        case atStart => exact ⟨0, by omega, rfl, World.ownsRow_nil _ _ _ _, Below.refl _ _⟩
        case round =>
          obtain ⟨i2, hi2, rfl, hown, hbel⟩ := hrel
          have HOT := Lib.hid hown
          have HBT := Lib.hid hbel
          have hBT := hbel.size
          clear hown hbel
          by_cases hlt2 : i2 < H.length
          · have hlt2I : (i2 : Int) < (H.length : Int) := by omega
            have hi20 : (0 : Int) ≤ (i2 : Int) := by omega
            go_wp2_with (at_builtin; refine wpList_append_mine rfl (.tmp 61) (.tmp 62) _ _ rfl w3.heap.size 4 i1 (.bool false) 1 1 hy1 hy2 rfl (by decide) _ _ _ rfl (Mine.alloc (.inr HOT.out) _) _ 1 [.bool false] rfl (Gives.elem Try.underlying32 hi1 hy0 hy1 _ rfl) (by simp only [maxLen]; omega) (by omega) (by simp; omega) ?_; intro A5 c5 w5 hm5 hg5 hb5 hat5 hown5)
            have ho5 := hown5 (.inl (by decide))
            have HO5 := Lib.hid ho5
            have HB5 := Lib.hid ((HBT.out.alloc hBT _).trans hb5)
            clear ho5 hown5 hat5 hg5 hm5 hb5
            go_wp2_with fail
            go_roundw
            case rel => exact ⟨i2 + 1, by omega, by go_num, by rw [List.replicate_succ', List.map_append]; exact HO5.out, HB5.out⟩
            case measure => simp [intOf]; omega
          · have hge2 : (H.length : Int) ≤ (i2 : Int) := by omega
            obtain rfl : i2 = H.length := by omega
            obtain ⟨w4, rfl⟩ : ∃ w4 : World, w4 = wr := ⟨_, rfl⟩
            have HLT := Lib.hid (own_lt HOT.out)
            go_wp2_with fail
            go_loopw [15, 12] (fun iv gv wr => ∃ (i : Nat) (TK : List Bool) (G : List Int), i ≤ gs.length ∧ i ≤ 30 ∧ iv = .int .i64 (i : Int) ∧ TK.length = H.length ∧ G.length ≤ i ∧ G.Nodup ∧ (∀ g ∈ G, g ∈ H) ∧ (∀ (k : Nat) (x : Int), H[k]? = some x → TK.getD k false = false → x ∉ G) ∧
              wr.ownsRow w3.heap.size 4 1 u13 H.length (TK.map Value.bool) ∧ wr.ownsRow w4.heap.size 3 1 gv G.length (G.map (Value.int .i64)) ∧ Below w3.heap.size w3 wr ∧ w4.heap.size ≤ wr.heap.size) (fun i _ _ => gs.length - (intOf i).toNat)
            case atStart => exact ⟨0, List.replicate H.length false, [], by omega, by omega, rfl, by simp, Nat.le_refl _, List.nodup_nil, by simp, by simp, HOT.out, World.ownsRow_nil _ _ _ _, HBT.out, Nat.le_refl _⟩
            case round =>
              obtain ⟨i3, TK, G, hi3, hi30, rfl, hTK, hGl, hGn, hGH, hGK, hownt, howng, hbel, hsz⟩ := hrel
              have HTK := Lib.hid hTK
              have HGN := Lib.hid hGn
              have HGH := Lib.hid hGH
              have HGK := Lib.hid hGK
              have HOT3 := Lib.hid hownt
              have HOG3 := Lib.hid howng
              have HB3R := Lib.hid hbel
              have hb3s := hbel.size
              clear hTK hGn hGH hGK hownt howng hbel
              by_cases hlt3 : i3 < gs.length ∧ 0 < H.length ∧ i3 < 30
              · obtain ⟨hlt3, hH0, hlt30⟩ := hlt3
                have hlt3I : (i3 : Int) < (gs.length : Int) := by omega
                have hlt30I : (i3 : Int) < 30 := by omega
                have hH0I : (0 : Int) < (H.length : Int) := by omega
                have hi30' : (0 : Int) ≤ (i3 : Int) := by omega
                obtain ⟨z, hz⟩ : ∃ z, gs[i3]? = some z := ⟨_, List.getElem?_eq_getElem hlt3⟩
                obtain ⟨b1, off1, rfl, hbb1, hcell1⟩ := HG0.out.at (by omega) (by decide)
                have hck1 := (Below.cell (HB3.out.trans (Below.mono HB3R.out hz3)) (p := ⟨b1, off1 + i3, none⟩) hbb1).trans (hcell1 i3 (.int .i64 z) (by rw [List.getElem?_map, hz]; rfl))
                obtain ⟨z1, z2⟩ := HGB.out z (List.mem_of_getElem? hz)
                have PZ := Lib.hid (fun w => Pl.place_any z (H.length : Int) w (by omega) (by omega) z1 z2)
                obtain ⟨q0, q1⟩ := Pl.place_bd z (H.length : Int) (by omega)
                generalize Pl.placeZ z (H.length : Int) = q at *
                obtain ⟨q, rfl⟩ := Int.eq_ofNat_of_zero_le q0
                clear hz hbb1 hcell1 z1 z2
                have hq : q < H.length := by omega
                obtain ⟨x, hx⟩ : ∃ x, H[q]? = some x := ⟨_, List.getElem?_eq_getElem hq⟩
                have hTV := HOT3.out.2
                rcases hTV with ⟨_, h0⟩ | ⟨gt, ct, cur, hv, hgtb, hgg, _⟩
                · omega
                subst hv
                have hgt4 := (HLT.out gt rfl).2
                obtain ⟨hcm, hfm⟩ := ownB_there HOT3.out q hq
                clear hgg
                cases hb : TK.getD q false
                · rw [hb] at hcm
                  have hst := ownB_set HOT3.out q true
                  have HST := Lib.hid hst
                  have HON := Lib.hid (Only.setCell gt q wr (.bool true))
                  have hnot := HGK.out q x hx hb
                  have HNX := Lib.hid (nodup_snoc HGN.out hnot)
                  have hxH := List.mem_of_getElem? hx
                  have HGX : Hid (∀ g ∈ G ++ [x], g ∈ H) := Lib.hid fun h hm => by
                    rcases List.mem_append.1 hm with hm | hm
                    · exact HGH.out h hm
                    · rw [List.mem_singleton.1 hm]; exact hxH
                  have HKX : Hid (∀ (k : Nat) (y : Int), H[k]? = some y → (TK.set q true).getD k false = false → y ∉ G ++ [x]) := Lib.hid fun k y hy hk hm => by
                    have hkq : k ≠ q := by
                      rintro rfl
                      rw [List.getD_eq_getElem?_getD, List.getElem?_set_self (by rw [HTK.out]; omega)] at hk
                      cases hk
                    rw [List.getD_eq_getElem?_getD, List.getElem?_set_ne (fun e => hkq e.symm), ← List.getD_eq_getElem?_getD] at hk
                    rcases List.mem_append.1 hm with hm | hm
                    · exact HGK.out k y hy hk hm
                    · rw [List.mem_singleton.1 hm] at hy
                      exact hkq ((List.getElem?_inj (List.getElem?_eq_some_iff.1 hy).1 HND.out).1 (hy.trans hx.symm))
                  have HCX : Hid (∀ w', Below w3.heap.size w3 w' → ∃ bh oh, Ah = some ⟨bh, oh, none⟩ ∧ w'.cell? ⟨bh, oh + q, none⟩ = some (.int .i64 x)) := Lib.hid fun w' hk => by
                    obtain ⟨bh, oh, e, hbb, hcell⟩ := (HSH.out.below hk).at (by omega) (by decide)
                    exact ⟨bh, oh, e, hcell q (.int .i64 x) (by rw [List.getElem?_map, hx]; rfl)⟩
                  obtain ⟨bh, oh, rfl, hch3⟩ := HCX.out wr HB3R.out
                  clear hst hnot hxH hb hx
                  go_wp2_with fail
                  refine (PZ.out _).mono ?_
                  rintro e w' ⟨rfl, rfl⟩
                  go_wp2_with (first
                    | ((with_reducible show wpList _ _ _ (⟨none, Op.store _ (.tmp 93) _, _, _, _, _⟩ :: _) _ _); refine wpList_store_bool rfl _ _ rfl hcm hfm rfl rfl ?_; intro w6 hw6; have hon6 := HON.out; have hst6 := HST.out; rw [← hw6] at hon6 hst6; clear hw6 hcm hfm hch3; have hb6 := hon6.below HB3R.out hgtb; have hcell6 : w6.cell? ⟨bh, oh + q, none⟩ = some (.int .i64 x) := (by obtain ⟨_, _, e, h⟩ := HCX.out w6 hb6; injection e with e; injection e with e1 e2; subst e1; subst e2; exact h))
                    | (at_builtin; refine wpList_append_mine rfl (.tmp 94) (.tmp 99) _ _ rfl w4.heap.size 3 i0 (.int .i64 0) 1 8 hz1 hz2 rfl (by decide) _ _ _ rfl (Mine.alloc (.inr (own_only HOG3.out hon6 hgt4)) _) _ 1 [.int .i64 x] rfl (Gives.elem Try.underlying25 hi0 hz0 hz1 _ rfl) (by simp only [maxLen]; omega) (by omega) (by have := hon6.size; simp; omega) ?_; intro A5 c5 w5 hm5 hg5 hb5 hat5 hown5))
                  have ho5 := hown5 (.inl (by decide))
                  have HO5 := Lib.hid ho5
                  have hsz6 := hon6.size
                  have HOT5 := Lib.hid (own_keptB (hst6.alloc _) hb5 hgt4)
                  have HB5 := Lib.hid ((hb6.alloc (by omega) _).trans (Below.mono hb5 (Nat.le_trans HBT.out.size (Nat.le_refl _))))
                  have hsz5 : w4.heap.size ≤ w5.heap.size := by have := hb5.size; simp at this; omega
                  clear ho5 hown5 hat5 hg5 hm5 hb5 hon6 hst6 hb6 hcell6
                  go_wp2_with fail
                  go_roundw
                  case rel => exact ⟨i3 + 1, TK.set q true, G ++ [x], by omega, by omega, by go_num, by rw [List.length_set]; exact HTK.out, by simp; omega, HNX.out, HGX.out, HKX.out, HOT5.out, by simpa using HO5.out, HB5.out, hsz5⟩
                  case measure => simp [intOf]; omega
                · rw [hb] at hcm
                  clear hb hx
                  go_wp2_with fail
                  refine (PZ.out _).mono ?_
                  rintro e w' ⟨rfl, rfl⟩
                  go_wp2_with fail
                  go_roundw
                  case rel => exact ⟨i3 + 1, TK, G, by omega, by omega, by go_num, HTK.out, by omega, HGN.out, HGH.out, HGK.out, HOT3.out, HOG3.out, HB3R.out, hsz⟩
                  case measure => simp [intOf]; omega
              · have hcs : (gs.length ≤ i3) ∨ (i3 < gs.length ∧ H.length = 0) ∨ (i3 < gs.length ∧ 0 < H.length ∧ 30 ≤ i3) := by omega
                rcases hcs with hx1 | ⟨hx1, hx2⟩ | ⟨hx1, hx2, hx3⟩
                · have hx1I : (gs.length : Int) ≤ (i3 : Int) := by omega
                  clear hlt3
                  obtain ⟨A4, c4, rfl, hc4, _, hs4⟩ := Mine.form (.inr HOG3.out)
                  have HS4 := Lib.hid hs4
                  have FRM := Lib.hid (CFR.out M HM.out _ 128 _ (HSB.out.on (Nat.le_refl _) HB3R.out))
                  have hGG : ∀ g ∈ G, 74 ≤ g ∧ g < 160 ∧ g < 1024 ∧ bitN M g.toNat = true := fun g hg => by
                    obtain ⟨a, b, c⟩ := HH.out g (HGH.out g hg)
                    exact ⟨a, b, by omega, c⟩
                  have HPA := Lib.hid (plan_all HM.out 160 kk G HGN.out hGG)
                  have HPN := Lib.hid (planN (L := M) HM.out.symm (by decide))
                  obtain ⟨F, hF⟩ : ∃ F, F = (frees M 160 (top 160)).length := ⟨_, rfl⟩
                  have hFk : F ≤ 1024 := by rw [hF]; exact Nat.le_trans (frees_len _ _ _) (top_le _)
                  have htb : takeB M 160 kk = decide (kk ≤ (F : Int)) := by rw [hF]; unfold takeB; simp [p0]
                  rw [← hF] at FRM HPA
                  have hTBN : takeB M 160 kk = false → planM M 160 kk G = none := fun h => by unfold planM; rw [if_neg (by rw [h]; simp)]
                  have HTBN := Lib.hid hTBN
                  have HTB := Lib.hid htb
                  clear hs4 hGG hF htb hTBN
                  go_wp2_with fail
                  refine FRM.out.mono ?_
                  rintro e w5 ⟨A5, c5, rfl, hb5⟩
                  have HB5 := Lib.hid (HB3R.out.trans (Below.mono hb5 hb3s))
                  have HS45 := Lib.hid (HS4.out.on (Nat.le_refl _) hb5)
                  clear hb5
                  go_wp2_with fail
                  refine (PN.out _).mono ?_
                  rintro e w' ⟨rfl, rfl⟩
                  go_wp2_with fail
                  refine (bytesN (L := M) HM.out.symm (by decide) _ 128 _ (HSB.out.on (Nat.le_refl _) HB5.out) (Nat.le_refl _)).mono ?_
                  rintro e w6 ⟨A6, c6, rfl, hs6, hc6, hb6⟩
                  have HS6 := Lib.hid hs6
                  have HS46 := Lib.hid (HS45.out.on (Nat.le_refl _) hb6)
                  have HB6 := Lib.hid (HB5.out.trans (Below.mono hb6 HB5.out.size))
                  clear hs6 hb6
                  go_wp2_with fail
                  refine (HPN.out A6 c6 160 kk A4 G c4 w6 HS6.out hc6 HS46.out (by omega)).mono ?_
                  rintro e w7 hp7
                  have hb7 : Below w6.heap.size w6 w7 := by rcases hp7 with ⟨_, _, h⟩ | ⟨_, _, _, _, _, _, _, _, _, _, _, _, h⟩ <;> exact h
                  have HB7 := Lib.hid (HB6.out.trans (Below.mono hb7 HB6.out.size))
                  clear hb7
                  by_cases hkF : kk ≤ (F : Int)
                  · obtain ⟨N, hPE, hN128, hTk, hFN, hTX⟩ := HPA.out (HTB.out.trans (decide_eq_true hkF))
                    rcases hp7 with ⟨hn, _⟩ | ⟨T, N2, A9, c9, A10, c10, hn, rfl, hs9, hc9, hs10, hm10, _⟩
                    · rw [hPE] at hn
                      cases hn
                    · rw [hPE] at hn
                      injection hn with hn
                      injection hn with e1 e2
                      subst e2
                      have HS9 := Lib.hid hs9
                      have HS10 := Lib.hid hs10
                      rw [e1] at hTk hTX
                      have HTX := Lib.hid hTX
                      have hTe : ((T.length : Int) == kk) = true := by simp [hTk]
                      have hT60 : T.length ≤ 60 := by omega
                      have FRN := Lib.hid (CFR.out N hN128)
                      have HMPN := Lib.hid (fun A w hs => rmap_yes A N hN128 c10 w hs)
                      obtain ⟨FN, hFNe⟩ : ∃ FN, FN = (frees N 160 (top 160)).length := ⟨_, rfl⟩
                      rw [← hFNe] at hFN FRN
                      have hFe : ((FN : Int) == (F : Int) - kk + (G.length : Int)) = true := by simp [hFN]
                      have hFN2 : FN ≤ 1024 := by rw [hFNe]; exact Nat.le_trans (frees_len _ _ _) (top_le _)
                      clear hPE hTX hs9 hs10 hTk hFN hFNe e1 HPA HTBN HPN
                      go_wp2_with fail
                      go_loopw [22] (fun iv wr => ∃ i : Nat, i ≤ T.length ∧ iv = .int .i64 (i : Int) ∧ Below w7.heap.size w7 wr) (fun i _ => T.length - (intOf i).toNat)
                      case atStart => exact ⟨0, by omega, rfl, Below.refl _ _⟩
                      case round =>
                        obtain ⟨i4, hi4, rfl, hbel4⟩ := hrel
                        have HBL := Lib.hid hbel4
                        clear hbel4
                        by_cases hlt4 : i4 < T.length
                        · have hlt4I : (i4 : Int) < (T.length : Int) := by omega
                          have hi40 : (0 : Int) ≤ (i4 : Int) := by omega
                          obtain ⟨x, hx⟩ : ∃ x, T[i4]? = some x := ⟨_, List.getElem?_eq_getElem hlt4⟩
                          obtain ⟨x0, x1, x2, x3⟩ := HTX.out i4 x hx
                          obtain ⟨xn, rfl⟩ := Int.eq_ofNat_of_zero_le x0
                          rw [Int.toNat_natCast] at x2 x3
                          obtain ⟨b9, o9, rfl, hbb9, hcell9⟩ := (HS9.out.on (Nat.le_refl _) HBL.out).at (by omega) (by decide)
                          have hck9 := hcell9 i4 (.int .i64 (xn : Int)) (by rw [List.getElem?_map, hx]; rfl)
                          have hxn : xn < 1024 := by omega
                          obtain ⟨bm, om, hem, hbbm, hcellm⟩ := (HSM.out.on (Nat.le_refl _) (HB7.out.trans (Below.mono HBL.out HB7.out.size))).at (by decide) (by decide)
                          injection hem with hem
                          injection hem with em1 em2
                          subst em1; subst em2
                          have hckm := hcellm xn (.bool false) (by rw [List.getElem?_map]; unfold mapF; rw [List.getElem?_map, List.getElem?_range hxn, ← x2]; rfl)
                          rw [Nat.zero_add] at hckm
                          have HMN : Hid (∀ w', Below wr.heap.size wr w' → Sl w' w'.heap.size 1 A10 128 (N.map bv)) := Lib.hid fun w' hk => (HS10.out.on (Nat.le_refl _) HBL.out).on (Nat.le_refl _) hk
                          have HX3 := Lib.hid x3
                          clear hx hcell9 hcellm x2 x3
                          go_wp2_with fail
                          refine wp_region_rely (by kernel_rfl) (fun d u w' => match d with
                            | 139 => u = (.slice (some ⟨gm, 0, none⟩) 1024 1024 : Value)
                            | 140 => u = (.slice (some ⟨b9, o9, none⟩) T.length c9 : Value)
                            | 141 => u = (.int .i64 (i4 : Int) : Value)
                            | 142 => u = (.pointer (some ⟨b9, o9 + i4, none⟩) : Value)
                            | 143 => u = (.int .i64 (xn : Int) : Value)
                            | 144 => u = (.pointer (some ⟨gm, xn, none⟩) : Value)
                            | 145 => u = (.bool false : Value)
                            | 146 => u = (.bool false : Value)
                            | 147 => u = (.slice A10 128 c10 : Value)
                            | 148 => ∃ gN, u = .slice (some ⟨gN, 0, none⟩) 1024 1024 ∧ gN < w'.heap.size ∧ w'.cell? ⟨gN, xn, none⟩ = some (.bool true)
                            | 149 => u = (.slice (some ⟨b9, o9, none⟩) T.length c9 : Value)
                            | 150 => u = (.int .i64 (i4 : Int) : Value)
                            | 151 => u = (.pointer (some ⟨b9, o9 + i4, none⟩) : Value)
                            | 152 => u = (.int .i64 (xn : Int) : Value)
                            | 153 => ∃ gN, u = .pointer (some ⟨gN, xn, none⟩) ∧ gN < w'.heap.size ∧ w'.cell? ⟨gN, xn, none⟩ = some (.bool true)
                            | 154 => u = (.bool true : Value)
                            | 155 => u = (.bool false : Value)
                            | 156 => u = (.bool false : Value)
                            | _ => True) 176 rfl (by decide +kernel) [156] ?_ ?_
                          · refine AllSteps.cons (Step.move _ rfl rfl fun a w' hl => hl.old 7 rfl) ?_
                            refine AllSteps.cons (Step.move _ rfl rfl fun a w' hl => hl.old 19 rfl) ?_
                            refine AllSteps.cons (Step.move _ rfl rfl fun a w' hl => hl.old 22 rfl) ?_
                            refine AllSteps.cons (Step.plain rfl fun a w' K hl hK => ?_) ?_
                            · obtain ⟨_, _, _, h140⟩ := hl.dep 1 140 rfl rfl
                              replace h140 : a.eval (.tmp 140) = _ := h140
                              obtain ⟨_, _, _, h141⟩ := hl.dep 2 141 rfl rfl
                              replace h141 : a.eval (.tmp 141) = _ := h141
                              refine wp_val (.pointer (some ⟨b9, o9 + i4, none⟩)) ?_ (hK _ _ (Kept.refl _) rfl)
                              clear hl hK
                              generalize a.eval = ρ at *
                              simp [execOp, go_sem, h140, h141]
                              try (intro h; omega)
                            refine AllSteps.cons (Step.plain rfl fun a w' K hl hK => ?_) ?_
                            · obtain ⟨_, _, _, h142⟩ := hl.dep 3 142 rfl rfl
                              replace h142 : a.eval (.tmp 142) = _ := h142
                              have hcell := (Below.cell hl.kept (p := ⟨b9, o9 + i4, none⟩) hbb9).trans hck9
                              refine wp_val (.int .i64 (xn : Int)) ?_ (hK _ _ (Kept.refl _) rfl)
                              clear hl hK
                              generalize a.eval = ρ at *
                              simp [execOp, go_sem, h142, hcell]
                            refine AllSteps.cons (Step.plain rfl fun a w' K hl hK => ?_) ?_
                            · obtain ⟨_, _, _, h139⟩ := hl.dep 0 139 rfl rfl
                              replace h139 : a.eval (.tmp 139) = _ := h139
                              obtain ⟨_, _, _, h143⟩ := hl.dep 4 143 rfl rfl
                              replace h143 : a.eval (.tmp 143) = _ := h143
                              refine wp_val (.pointer (some ⟨gm, xn, none⟩)) ?_ (hK _ _ (Kept.refl _) rfl)
                              clear hl hK
                              generalize a.eval = ρ at *
                              simp [execOp, go_sem, h139, h143]
                              try (intro h; omega)
                            refine AllSteps.cons (Step.plain rfl fun a w' K hl hK => ?_) ?_
                            · obtain ⟨_, _, _, h144⟩ := hl.dep 5 144 rfl rfl
                              replace h144 : a.eval (.tmp 144) = _ := h144
                              have hcell := (Below.cell hl.kept (p := ⟨gm, xn, none⟩) hbbm).trans hckm
                              refine wp_val (.bool false) ?_ (hK _ _ (Kept.refl _) rfl)
                              clear hl hK
                              generalize a.eval = ρ at *
                              simp [execOp, go_sem, h144, hcell]
                            refine AllSteps.cons (Step.move _ rfl rfl fun a w' hl => let ⟨_, _, _, h⟩ := hl.dep 6 145 rfl rfl; h) ?_
                            refine AllSteps.cons (Step.yes 7 false 146 rfl rfl rfl (fun _ _ h => h) fun a w' K hl hK => ?_) ?_
                            · have h20 : a.eval (.tmp 20) = (.slice A10 128 c10 : Value) := hl.old 20 rfl
                              exact wp_val (a.eval (.tmp 20)) rfl (hK _ _ (Kept.refl _) h20)
                            refine AllSteps.cons (Step.yes 7 false 146 rfl rfl rfl (fun _ _ h => h) fun a w' K hl hK => ?_) ?_
                            · obtain ⟨_, _, _, h147⟩ := hl.dep 8 147 rfl rfl
                              replace h147 : a.eval (.tmp 147) = _ := h147
                              refine wp_call rfl Try.func19 rfl rfl #[.slice A10 128 c10] (by simp [h147]) ?_
                              refine (HMPN.out A10 w' (HMN.out w' hl.kept)).mono ?_
                              rintro e w8 ⟨gN, rfl, ho8, hb8⟩
                              have hc8 := (ownB_there ho8 xn hxn).1
                              rw [mapF_at _ hxn, HX3.out] at hc8
                              exact ⟨_, rfl, hK _ _ hb8 ⟨gN, rfl, (own_lt ho8 gN rfl).2, hc8⟩⟩
                            refine AllSteps.cons (Step.yes 7 false 146 rfl rfl rfl (fun _ _ h => h) fun a w' K hl hK => ?_) ?_
                            · have h19 : a.eval (.tmp 19) = (.slice (some ⟨b9, o9, none⟩) T.length c9 : Value) := hl.old 19 rfl
                              exact wp_val (a.eval (.tmp 19)) rfl (hK _ _ (Kept.refl _) h19)
                            refine AllSteps.cons (Step.yes 7 false 146 rfl rfl rfl (fun _ _ h => h) fun a w' K hl hK => ?_) ?_
                            · have h22 : a.eval (.tmp 22) = (.int .i64 (i4 : Int) : Value) := hl.old 22 rfl
                              exact wp_val (a.eval (.tmp 22)) rfl (hK _ _ (Kept.refl _) h22)
                            refine AllSteps.cons (Step.yes 7 false 146 rfl rfl rfl (fun _ _ h => h) fun a w' K hl hK => ?_) ?_
                            · obtain ⟨_, _, _, h149⟩ := hl.dep 10 149 rfl rfl
                              replace h149 : a.eval (.tmp 149) = _ := h149
                              obtain ⟨_, _, _, h150⟩ := hl.dep 11 150 rfl rfl
                              replace h150 : a.eval (.tmp 150) = _ := h150
                              refine wp_val (.pointer (some ⟨b9, o9 + i4, none⟩)) ?_ (hK _ _ (Kept.refl _) rfl)
                              clear hl hK
                              generalize a.eval = ρ at *
                              simp [execOp, go_sem, h149, h150]
                              try (intro h; omega)
                            refine AllSteps.cons (Step.yes 7 false 146 rfl rfl rfl (fun _ _ h => h) fun a w' K hl hK => ?_) ?_
                            · obtain ⟨_, _, _, h151⟩ := hl.dep 12 151 rfl rfl
                              replace h151 : a.eval (.tmp 151) = _ := h151
                              have hcell := (Below.cell hl.kept (p := ⟨b9, o9 + i4, none⟩) hbb9).trans hck9
                              refine wp_val (.int .i64 (xn : Int)) ?_ (hK _ _ (Kept.refl _) rfl)
                              clear hl hK
                              generalize a.eval = ρ at *
                              simp [execOp, go_sem, h151, hcell]
                            refine AllSteps.cons (Step.yes 7 false 146 rfl rfl rfl (fun _ _ h => h) fun a w' K hl hK => ?_) ?_
                            · obtain ⟨_, w1, hk1, gN, h148, hgN, hcN⟩ := hl.dep 9 148 rfl rfl
                              obtain ⟨_, _, _, h152⟩ := hl.dep 13 152 rfl rfl
                              replace h152 : a.eval (.tmp 152) = _ := h152
                              refine wp_val (.pointer (some ⟨gN, xn, none⟩)) ?_ (hK _ _ (Kept.refl _) ⟨gN, rfl, Nat.lt_of_lt_of_le hgN hk1.size, (Below.cell hk1 (p := ⟨gN, xn, none⟩) hgN).trans hcN⟩)
                              clear hl hK
                              generalize a.eval = ρ at *
                              simp [execOp, go_sem, h148, h152]
                              try (intro h; omega)
                            refine AllSteps.cons (Step.yes 7 false 146 rfl rfl rfl (fun _ _ h => h) fun a w' K hl hK => ?_) ?_
                            · obtain ⟨_, w1, hk1, gN, h153, hgN, hcN⟩ := hl.dep 14 153 rfl rfl
                              refine wp_val (.bool true) ?_ (hK _ _ (Kept.refl _) rfl)
                              have hcell := (Below.cell hk1 (p := ⟨gN, xn, none⟩) hgN).trans hcN
                              clear hl hK
                              generalize a.eval = ρ at *
                              simp [execOp, go_sem, h153, hcell]
                            refine AllSteps.cons (Step.yes 7 false 146 rfl rfl rfl (fun _ _ h => h) fun a w' K hl hK => ?_) ?_
                            · obtain ⟨_, _, _, h154⟩ := hl.dep 15 154 rfl rfl
                              replace h154 : a.eval (.tmp 154) = _ := h154
                              refine wp_val (.bool false) ?_ (hK _ _ (Kept.refl _) rfl)
                              clear hl hK
                              generalize a.eval = ρ at *
                              simp [execOp, go_sem, h154]
                            refine AllSteps.cons (Step.plain rfl fun a w' K hl hK => ?_) ?_
                            · obtain ⟨_, _, _, h146⟩ := hl.dep 7 146 rfl rfl
                              replace h146 : a.eval (.tmp 146) = _ := h146
                              obtain ⟨_, _, _, h155⟩ := hl.dep 16 155 rfl rfl
                              replace h155 : a.eval (.tmp 155) = _ := h155
                              exact wp_pick rfl false h146 (hK _ _ (Kept.refl _) h155)
                            exact AllSteps.nil
                          · intro f w9 hk9 hf
                            obtain ⟨_, _, h156⟩ := hf 156 rfl rfl
                            replace h156 : f 156 = .bool false := h156
                            simp only [Exit.then, fill, dsts, List.filterMap_cons, List.filterMap_nil, List.foldl_cons, List.foldl_nil, Act.put, h156, List.setIfInBounds_toArray, List.set_cons_succ, List.set_cons_zero]
                            clear hf
                            have HB9 := Lib.hid (HBL.out.trans (Below.mono hk9 HBL.out.size))
                            clear hk9
                            go_wp2_with fail
                            go_roundw
                            case rel => exact ⟨i4 + 1, by omega, by go_num, HB9.out⟩
                            case measure => simp [intOf]; omega
                        · have hge4 : (T.length : Int) ≤ (i4 : Int) := by omega
                          go_wp2_with fail
                          refine (FRN.out A10 c10 _ (HS10.out.on (Nat.le_refl _) HBL.out)).mono ?_
                          rintro e w9 ⟨A11, c11, rfl, hb9⟩
                          have HB9 := Lib.hid (HBL.out.trans (Below.mono hb9 HBL.out.size))
                          clear hb9
                          go_wp2_with fail
                          refine (Al.awake_any _).mono ?_
                          rintro e w10 ⟨rfl, hb10⟩
                          have HB10 := Lib.hid (HB9.out.trans (Below.mono hb10 HB9.out.size))
                          clear hb10
                          go_wp2_with fail
                          go_ret
                          exact ⟨rfl, (HB3.out.trans (Below.mono HB7.out hz3)).trans (Below.mono HB10.out (Nat.le_trans hz3 HB7.out.size))⟩
                  · have hpn := HTBN.out (HTB.out.trans (decide_eq_false hkF))
                    rcases hp7 with ⟨_, rfl, _⟩ | ⟨T, N2, A9, c9, A10, c10, hn, _⟩
                    · clear hpn HPA
                      go_wp2_with fail
                      refine (Al.awake_any _).mono ?_
                      rintro e w10 ⟨rfl, hb10⟩
                      have HB10 := Lib.hid (HB7.out.trans (Below.mono hb10 HB7.out.size))
                      clear hb10
                      go_wp2_with fail
                      go_ret
                      exact ⟨rfl, HB3.out.trans (Below.mono HB10.out hz3)⟩
                    · rw [hpn] at hn
                      cases hn
                · have hx1I : (i3 : Int) < (gs.length : Int) := by omega
                  have hx2I : (H.length : Int) ≤ 0 := by omega
                  clear hlt3
                  obtain ⟨A4, c4, rfl, hc4, _, hs4⟩ := Mine.form (.inr HOG3.out)
                  have HS4 := Lib.hid hs4
                  have FRM := Lib.hid (CFR.out M HM.out _ 128 _ (HSB.out.on (Nat.le_refl _) HB3R.out))
                  have hGG : ∀ g ∈ G, 74 ≤ g ∧ g < 160 ∧ g < 1024 ∧ bitN M g.toNat = true := fun g hg => by
                    obtain ⟨a, b, c⟩ := HH.out g (HGH.out g hg)
                    exact ⟨a, b, by omega, c⟩
                  have HPA := Lib.hid (plan_all HM.out 160 kk G HGN.out hGG)
                  have HPN := Lib.hid (planN (L := M) HM.out.symm (by decide))
                  obtain ⟨F, hF⟩ : ∃ F, F = (frees M 160 (top 160)).length := ⟨_, rfl⟩
                  have hFk : F ≤ 1024 := by rw [hF]; exact Nat.le_trans (frees_len _ _ _) (top_le _)
                  have htb : takeB M 160 kk = decide (kk ≤ (F : Int)) := by rw [hF]; unfold takeB; simp [p0]
                  rw [← hF] at FRM HPA
                  have hTBN : takeB M 160 kk = false → planM M 160 kk G = none := fun h => by unfold planM; rw [if_neg (by rw [h]; simp)]
                  have HTBN := Lib.hid hTBN
                  have HTB := Lib.hid htb
                  clear hs4 hGG hF htb hTBN
                  go_wp2_with fail
                  refine FRM.out.mono ?_
                  rintro e w5 ⟨A5, c5, rfl, hb5⟩
                  have HB5 := Lib.hid (HB3R.out.trans (Below.mono hb5 hb3s))
                  have HS45 := Lib.hid (HS4.out.on (Nat.le_refl _) hb5)
                  clear hb5
                  go_wp2_with fail
                  refine (PN.out _).mono ?_
                  rintro e w' ⟨rfl, rfl⟩
                  go_wp2_with fail
                  refine (bytesN (L := M) HM.out.symm (by decide) _ 128 _ (HSB.out.on (Nat.le_refl _) HB5.out) (Nat.le_refl _)).mono ?_
                  rintro e w6 ⟨A6, c6, rfl, hs6, hc6, hb6⟩
                  have HS6 := Lib.hid hs6
                  have HS46 := Lib.hid (HS45.out.on (Nat.le_refl _) hb6)
                  have HB6 := Lib.hid (HB5.out.trans (Below.mono hb6 HB5.out.size))
                  clear hs6 hb6
                  go_wp2_with fail
                  refine (HPN.out A6 c6 160 kk A4 G c4 w6 HS6.out hc6 HS46.out (by omega)).mono ?_
                  rintro e w7 hp7
                  have hb7 : Below w6.heap.size w6 w7 := by rcases hp7 with ⟨_, _, h⟩ | ⟨_, _, _, _, _, _, _, _, _, _, _, _, h⟩ <;> exact h
                  have HB7 := Lib.hid (HB6.out.trans (Below.mono hb7 HB6.out.size))
                  clear hb7
                  by_cases hkF : kk ≤ (F : Int)
                  · obtain ⟨N, hPE, hN128, hTk, hFN, hTX⟩ := HPA.out (HTB.out.trans (decide_eq_true hkF))
                    rcases hp7 with ⟨hn, _⟩ | ⟨T, N2, A9, c9, A10, c10, hn, rfl, hs9, hc9, hs10, hm10, _⟩
                    · rw [hPE] at hn
                      cases hn
                    · rw [hPE] at hn
                      injection hn with hn
                      injection hn with e1 e2
                      subst e2
                      have HS9 := Lib.hid hs9
                      have HS10 := Lib.hid hs10
                      rw [e1] at hTk hTX
                      have HTX := Lib.hid hTX
                      have hTe : ((T.length : Int) == kk) = true := by simp [hTk]
                      have hT60 : T.length ≤ 60 := by omega
                      have FRN := Lib.hid (CFR.out N hN128)
                      have HMPN := Lib.hid (fun A w hs => rmap_yes A N hN128 c10 w hs)
                      obtain ⟨FN, hFNe⟩ : ∃ FN, FN = (frees N 160 (top 160)).length := ⟨_, rfl⟩
                      rw [← hFNe] at hFN FRN
                      have hFe : ((FN : Int) == (F : Int) - kk + (G.length : Int)) = true := by simp [hFN]
                      have hFN2 : FN ≤ 1024 := by rw [hFNe]; exact Nat.le_trans (frees_len _ _ _) (top_le _)
                      clear hPE hTX hs9 hs10 hTk hFN hFNe e1 HPA HTBN HPN
                      go_wp2_with fail
                      go_loopw [22] (fun iv wr => ∃ i : Nat, i ≤ T.length ∧ iv = .int .i64 (i : Int) ∧ Below w7.heap.size w7 wr) (fun i _ => T.length - (intOf i).toNat)
                      case atStart => exact ⟨0, by omega, rfl, Below.refl _ _⟩
                      case round =>
                        obtain ⟨i4, hi4, rfl, hbel4⟩ := hrel
                        have HBL := Lib.hid hbel4
                        clear hbel4
                        by_cases hlt4 : i4 < T.length
                        · have hlt4I : (i4 : Int) < (T.length : Int) := by omega
                          have hi40 : (0 : Int) ≤ (i4 : Int) := by omega
                          obtain ⟨x, hx⟩ : ∃ x, T[i4]? = some x := ⟨_, List.getElem?_eq_getElem hlt4⟩
                          obtain ⟨x0, x1, x2, x3⟩ := HTX.out i4 x hx
                          obtain ⟨xn, rfl⟩ := Int.eq_ofNat_of_zero_le x0
                          rw [Int.toNat_natCast] at x2 x3
                          obtain ⟨b9, o9, rfl, hbb9, hcell9⟩ := (HS9.out.on (Nat.le_refl _) HBL.out).at (by omega) (by decide)
                          have hck9 := hcell9 i4 (.int .i64 (xn : Int)) (by rw [List.getElem?_map, hx]; rfl)
                          have hxn : xn < 1024 := by omega
                          obtain ⟨bm, om, hem, hbbm, hcellm⟩ := (HSM.out.on (Nat.le_refl _) (HB7.out.trans (Below.mono HBL.out HB7.out.size))).at (by decide) (by decide)
                          injection hem with hem
                          injection hem with em1 em2
                          subst em1; subst em2
                          have hckm := hcellm xn (.bool false) (by rw [List.getElem?_map]; unfold mapF; rw [List.getElem?_map, List.getElem?_range hxn, ← x2]; rfl)
                          rw [Nat.zero_add] at hckm
                          have HMN : Hid (∀ w', Below wr.heap.size wr w' → Sl w' w'.heap.size 1 A10 128 (N.map bv)) := Lib.hid fun w' hk => (HS10.out.on (Nat.le_refl _) HBL.out).on (Nat.le_refl _) hk
                          have HX3 := Lib.hid x3
                          clear hx hcell9 hcellm x2 x3
                          go_wp2_with fail
                          refine wp_region_rely (by kernel_rfl) (fun d u w' => match d with
                            | 139 => u = (.slice (some ⟨gm, 0, none⟩) 1024 1024 : Value)
                            | 140 => u = (.slice (some ⟨b9, o9, none⟩) T.length c9 : Value)
                            | 141 => u = (.int .i64 (i4 : Int) : Value)
                            | 142 => u = (.pointer (some ⟨b9, o9 + i4, none⟩) : Value)
                            | 143 => u = (.int .i64 (xn : Int) : Value)
                            | 144 => u = (.pointer (some ⟨gm, xn, none⟩) : Value)
                            | 145 => u = (.bool false : Value)
                            | 146 => u = (.bool false : Value)
                            | 147 => u = (.slice A10 128 c10 : Value)
                            | 148 => ∃ gN, u = .slice (some ⟨gN, 0, none⟩) 1024 1024 ∧ gN < w'.heap.size ∧ w'.cell? ⟨gN, xn, none⟩ = some (.bool true)
                            | 149 => u = (.slice (some ⟨b9, o9, none⟩) T.length c9 : Value)
                            | 150 => u = (.int .i64 (i4 : Int) : Value)
                            | 151 => u = (.pointer (some ⟨b9, o9 + i4, none⟩) : Value)
                            | 152 => u = (.int .i64 (xn : Int) : Value)
                            | 153 => ∃ gN, u = .pointer (some ⟨gN, xn, none⟩) ∧ gN < w'.heap.size ∧ w'.cell? ⟨gN, xn, none⟩ = some (.bool true)
                            | 154 => u = (.bool true : Value)
                            | 155 => u = (.bool false : Value)
                            | 156 => u = (.bool false : Value)
                            | _ => True) 176 rfl (by decide +kernel) [156] ?_ ?_
                          · refine AllSteps.cons (Step.move _ rfl rfl fun a w' hl => hl.old 7 rfl) ?_
                            refine AllSteps.cons (Step.move _ rfl rfl fun a w' hl => hl.old 19 rfl) ?_
                            refine AllSteps.cons (Step.move _ rfl rfl fun a w' hl => hl.old 22 rfl) ?_
                            refine AllSteps.cons (Step.plain rfl fun a w' K hl hK => ?_) ?_
                            · obtain ⟨_, _, _, h140⟩ := hl.dep 1 140 rfl rfl
                              replace h140 : a.eval (.tmp 140) = _ := h140
                              obtain ⟨_, _, _, h141⟩ := hl.dep 2 141 rfl rfl
                              replace h141 : a.eval (.tmp 141) = _ := h141
                              refine wp_val (.pointer (some ⟨b9, o9 + i4, none⟩)) ?_ (hK _ _ (Kept.refl _) rfl)
                              clear hl hK
                              generalize a.eval = ρ at *
                              simp [execOp, go_sem, h140, h141]
                              try (intro h; omega)
                            refine AllSteps.cons (Step.plain rfl fun a w' K hl hK => ?_) ?_
                            · obtain ⟨_, _, _, h142⟩ := hl.dep 3 142 rfl rfl
                              replace h142 : a.eval (.tmp 142) = _ := h142
                              have hcell := (Below.cell hl.kept (p := ⟨b9, o9 + i4, none⟩) hbb9).trans hck9
                              refine wp_val (.int .i64 (xn : Int)) ?_ (hK _ _ (Kept.refl _) rfl)
                              clear hl hK
                              generalize a.eval = ρ at *
                              simp [execOp, go_sem, h142, hcell]
                            refine AllSteps.cons (Step.plain rfl fun a w' K hl hK => ?_) ?_
                            · obtain ⟨_, _, _, h139⟩ := hl.dep 0 139 rfl rfl
                              replace h139 : a.eval (.tmp 139) = _ := h139
                              obtain ⟨_, _, _, h143⟩ := hl.dep 4 143 rfl rfl
                              replace h143 : a.eval (.tmp 143) = _ := h143
                              refine wp_val (.pointer (some ⟨gm, xn, none⟩)) ?_ (hK _ _ (Kept.refl _) rfl)
                              clear hl hK
                              generalize a.eval = ρ at *
                              simp [execOp, go_sem, h139, h143]
                              try (intro h; omega)
                            refine AllSteps.cons (Step.plain rfl fun a w' K hl hK => ?_) ?_
                            · obtain ⟨_, _, _, h144⟩ := hl.dep 5 144 rfl rfl
                              replace h144 : a.eval (.tmp 144) = _ := h144
                              have hcell := (Below.cell hl.kept (p := ⟨gm, xn, none⟩) hbbm).trans hckm
                              refine wp_val (.bool false) ?_ (hK _ _ (Kept.refl _) rfl)
                              clear hl hK
                              generalize a.eval = ρ at *
                              simp [execOp, go_sem, h144, hcell]
                            refine AllSteps.cons (Step.move _ rfl rfl fun a w' hl => let ⟨_, _, _, h⟩ := hl.dep 6 145 rfl rfl; h) ?_
                            refine AllSteps.cons (Step.yes 7 false 146 rfl rfl rfl (fun _ _ h => h) fun a w' K hl hK => ?_) ?_
                            · have h20 : a.eval (.tmp 20) = (.slice A10 128 c10 : Value) := hl.old 20 rfl
                              exact wp_val (a.eval (.tmp 20)) rfl (hK _ _ (Kept.refl _) h20)
                            refine AllSteps.cons (Step.yes 7 false 146 rfl rfl rfl (fun _ _ h => h) fun a w' K hl hK => ?_) ?_
                            · obtain ⟨_, _, _, h147⟩ := hl.dep 8 147 rfl rfl
                              replace h147 : a.eval (.tmp 147) = _ := h147
                              refine wp_call rfl Try.func19 rfl rfl #[.slice A10 128 c10] (by simp [h147]) ?_
                              refine (HMPN.out A10 w' (HMN.out w' hl.kept)).mono ?_
                              rintro e w8 ⟨gN, rfl, ho8, hb8⟩
                              have hc8 := (ownB_there ho8 xn hxn).1
                              rw [mapF_at _ hxn, HX3.out] at hc8
                              exact ⟨_, rfl, hK _ _ hb8 ⟨gN, rfl, (own_lt ho8 gN rfl).2, hc8⟩⟩
                            refine AllSteps.cons (Step.yes 7 false 146 rfl rfl rfl (fun _ _ h => h) fun a w' K hl hK => ?_) ?_
                            · have h19 : a.eval (.tmp 19) = (.slice (some ⟨b9, o9, none⟩) T.length c9 : Value) := hl.old 19 rfl
                              exact wp_val (a.eval (.tmp 19)) rfl (hK _ _ (Kept.refl _) h19)
                            refine AllSteps.cons (Step.yes 7 false 146 rfl rfl rfl (fun _ _ h => h) fun a w' K hl hK => ?_) ?_
                            · have h22 : a.eval (.tmp 22) = (.int .i64 (i4 : Int) : Value) := hl.old 22 rfl
                              exact wp_val (a.eval (.tmp 22)) rfl (hK _ _ (Kept.refl _) h22)
                            refine AllSteps.cons (Step.yes 7 false 146 rfl rfl rfl (fun _ _ h => h) fun a w' K hl hK => ?_) ?_
                            · obtain ⟨_, _, _, h149⟩ := hl.dep 10 149 rfl rfl
                              replace h149 : a.eval (.tmp 149) = _ := h149
                              obtain ⟨_, _, _, h150⟩ := hl.dep 11 150 rfl rfl
                              replace h150 : a.eval (.tmp 150) = _ := h150
                              refine wp_val (.pointer (some ⟨b9, o9 + i4, none⟩)) ?_ (hK _ _ (Kept.refl _) rfl)
                              clear hl hK
                              generalize a.eval = ρ at *
                              simp [execOp, go_sem, h149, h150]
                              try (intro h; omega)
                            refine AllSteps.cons (Step.yes 7 false 146 rfl rfl rfl (fun _ _ h => h) fun a w' K hl hK => ?_) ?_
                            · obtain ⟨_, _, _, h151⟩ := hl.dep 12 151 rfl rfl
                              replace h151 : a.eval (.tmp 151) = _ := h151
                              have hcell := (Below.cell hl.kept (p := ⟨b9, o9 + i4, none⟩) hbb9).trans hck9
                              refine wp_val (.int .i64 (xn : Int)) ?_ (hK _ _ (Kept.refl _) rfl)
                              clear hl hK
                              generalize a.eval = ρ at *
                              simp [execOp, go_sem, h151, hcell]
                            refine AllSteps.cons (Step.yes 7 false 146 rfl rfl rfl (fun _ _ h => h) fun a w' K hl hK => ?_) ?_
                            · obtain ⟨_, w1, hk1, gN, h148, hgN, hcN⟩ := hl.dep 9 148 rfl rfl
                              obtain ⟨_, _, _, h152⟩ := hl.dep 13 152 rfl rfl
                              replace h152 : a.eval (.tmp 152) = _ := h152
                              refine wp_val (.pointer (some ⟨gN, xn, none⟩)) ?_ (hK _ _ (Kept.refl _) ⟨gN, rfl, Nat.lt_of_lt_of_le hgN hk1.size, (Below.cell hk1 (p := ⟨gN, xn, none⟩) hgN).trans hcN⟩)
                              clear hl hK
                              generalize a.eval = ρ at *
                              simp [execOp, go_sem, h148, h152]
                              try (intro h; omega)
                            refine AllSteps.cons (Step.yes 7 false 146 rfl rfl rfl (fun _ _ h => h) fun a w' K hl hK => ?_) ?_
                            · obtain ⟨_, w1, hk1, gN, h153, hgN, hcN⟩ := hl.dep 14 153 rfl rfl
                              refine wp_val (.bool true) ?_ (hK _ _ (Kept.refl _) rfl)
                              have hcell := (Below.cell hk1 (p := ⟨gN, xn, none⟩) hgN).trans hcN
                              clear hl hK
                              generalize a.eval = ρ at *
                              simp [execOp, go_sem, h153, hcell]
                            refine AllSteps.cons (Step.yes 7 false 146 rfl rfl rfl (fun _ _ h => h) fun a w' K hl hK => ?_) ?_
                            · obtain ⟨_, _, _, h154⟩ := hl.dep 15 154 rfl rfl
                              replace h154 : a.eval (.tmp 154) = _ := h154
                              refine wp_val (.bool false) ?_ (hK _ _ (Kept.refl _) rfl)
                              clear hl hK
                              generalize a.eval = ρ at *
                              simp [execOp, go_sem, h154]
                            refine AllSteps.cons (Step.plain rfl fun a w' K hl hK => ?_) ?_
                            · obtain ⟨_, _, _, h146⟩ := hl.dep 7 146 rfl rfl
                              replace h146 : a.eval (.tmp 146) = _ := h146
                              obtain ⟨_, _, _, h155⟩ := hl.dep 16 155 rfl rfl
                              replace h155 : a.eval (.tmp 155) = _ := h155
                              exact wp_pick rfl false h146 (hK _ _ (Kept.refl _) h155)
                            exact AllSteps.nil
                          · intro f w9 hk9 hf
                            obtain ⟨_, _, h156⟩ := hf 156 rfl rfl
                            replace h156 : f 156 = .bool false := h156
                            simp only [Exit.then, fill, dsts, List.filterMap_cons, List.filterMap_nil, List.foldl_cons, List.foldl_nil, Act.put, h156, List.setIfInBounds_toArray, List.set_cons_succ, List.set_cons_zero]
                            clear hf
                            have HB9 := Lib.hid (HBL.out.trans (Below.mono hk9 HBL.out.size))
                            clear hk9
                            go_wp2_with fail
                            go_roundw
                            case rel => exact ⟨i4 + 1, by omega, by go_num, HB9.out⟩
                            case measure => simp [intOf]; omega
                        · have hge4 : (T.length : Int) ≤ (i4 : Int) := by omega
                          go_wp2_with fail
                          refine (FRN.out A10 c10 _ (HS10.out.on (Nat.le_refl _) HBL.out)).mono ?_
                          rintro e w9 ⟨A11, c11, rfl, hb9⟩
                          have HB9 := Lib.hid (HBL.out.trans (Below.mono hb9 HBL.out.size))
                          clear hb9
                          go_wp2_with fail
                          refine (Al.awake_any _).mono ?_
                          rintro e w10 ⟨rfl, hb10⟩
                          have HB10 := Lib.hid (HB9.out.trans (Below.mono hb10 HB9.out.size))
                          clear hb10
                          go_wp2_with fail
                          go_ret
                          exact ⟨rfl, (HB3.out.trans (Below.mono HB7.out hz3)).trans (Below.mono HB10.out (Nat.le_trans hz3 HB7.out.size))⟩
                  · have hpn := HTBN.out (HTB.out.trans (decide_eq_false hkF))
                    rcases hp7 with ⟨_, rfl, _⟩ | ⟨T, N2, A9, c9, A10, c10, hn, _⟩
                    · clear hpn HPA
                      go_wp2_with fail
                      refine (Al.awake_any _).mono ?_
                      rintro e w10 ⟨rfl, hb10⟩
                      have HB10 := Lib.hid (HB7.out.trans (Below.mono hb10 HB7.out.size))
                      clear hb10
                      go_wp2_with fail
                      go_ret
                      exact ⟨rfl, HB3.out.trans (Below.mono HB10.out hz3)⟩
                    · rw [hpn] at hn
                      cases hn
                · have hx1I : (i3 : Int) < (gs.length : Int) := by omega
                  have hx2I : (0 : Int) < (H.length : Int) := by omega
                  have hx3I : (30 : Int) ≤ (i3 : Int) := by omega
                  clear hlt3
                  obtain ⟨A4, c4, rfl, hc4, _, hs4⟩ := Mine.form (.inr HOG3.out)
                  have HS4 := Lib.hid hs4
                  have FRM := Lib.hid (CFR.out M HM.out _ 128 _ (HSB.out.on (Nat.le_refl _) HB3R.out))
                  have hGG : ∀ g ∈ G, 74 ≤ g ∧ g < 160 ∧ g < 1024 ∧ bitN M g.toNat = true := fun g hg => by
                    obtain ⟨a, b, c⟩ := HH.out g (HGH.out g hg)
                    exact ⟨a, b, by omega, c⟩
                  have HPA := Lib.hid (plan_all HM.out 160 kk G HGN.out hGG)
                  have HPN := Lib.hid (planN (L := M) HM.out.symm (by decide))
                  obtain ⟨F, hF⟩ : ∃ F, F = (frees M 160 (top 160)).length := ⟨_, rfl⟩
                  have hFk : F ≤ 1024 := by rw [hF]; exact Nat.le_trans (frees_len _ _ _) (top_le _)
                  have htb : takeB M 160 kk = decide (kk ≤ (F : Int)) := by rw [hF]; unfold takeB; simp [p0]
                  rw [← hF] at FRM HPA
                  have hTBN : takeB M 160 kk = false → planM M 160 kk G = none := fun h => by unfold planM; rw [if_neg (by rw [h]; simp)]
                  have HTBN := Lib.hid hTBN
                  have HTB := Lib.hid htb
                  clear hs4 hGG hF htb hTBN
                  go_wp2_with fail
                  refine FRM.out.mono ?_
                  rintro e w5 ⟨A5, c5, rfl, hb5⟩
                  have HB5 := Lib.hid (HB3R.out.trans (Below.mono hb5 hb3s))
                  have HS45 := Lib.hid (HS4.out.on (Nat.le_refl _) hb5)
                  clear hb5
                  go_wp2_with fail
                  refine (PN.out _).mono ?_
                  rintro e w' ⟨rfl, rfl⟩
                  go_wp2_with fail
                  refine (bytesN (L := M) HM.out.symm (by decide) _ 128 _ (HSB.out.on (Nat.le_refl _) HB5.out) (Nat.le_refl _)).mono ?_
                  rintro e w6 ⟨A6, c6, rfl, hs6, hc6, hb6⟩
                  have HS6 := Lib.hid hs6
                  have HS46 := Lib.hid (HS45.out.on (Nat.le_refl _) hb6)
                  have HB6 := Lib.hid (HB5.out.trans (Below.mono hb6 HB5.out.size))
                  clear hs6 hb6
                  go_wp2_with fail
                  refine (HPN.out A6 c6 160 kk A4 G c4 w6 HS6.out hc6 HS46.out (by omega)).mono ?_
                  rintro e w7 hp7
                  have hb7 : Below w6.heap.size w6 w7 := by rcases hp7 with ⟨_, _, h⟩ | ⟨_, _, _, _, _, _, _, _, _, _, _, _, h⟩ <;> exact h
                  have HB7 := Lib.hid (HB6.out.trans (Below.mono hb7 HB6.out.size))
                  clear hb7
                  by_cases hkF : kk ≤ (F : Int)
                  · obtain ⟨N, hPE, hN128, hTk, hFN, hTX⟩ := HPA.out (HTB.out.trans (decide_eq_true hkF))
                    rcases hp7 with ⟨hn, _⟩ | ⟨T, N2, A9, c9, A10, c10, hn, rfl, hs9, hc9, hs10, hm10, _⟩
                    · rw [hPE] at hn
                      cases hn
                    · rw [hPE] at hn
                      injection hn with hn
                      injection hn with e1 e2
                      subst e2
                      have HS9 := Lib.hid hs9
                      have HS10 := Lib.hid hs10
                      rw [e1] at hTk hTX
                      have HTX := Lib.hid hTX
                      have hTe : ((T.length : Int) == kk) = true := by simp [hTk]
                      have hT60 : T.length ≤ 60 := by omega
                      have FRN := Lib.hid (CFR.out N hN128)
                      have HMPN := Lib.hid (fun A w hs => rmap_yes A N hN128 c10 w hs)
                      obtain ⟨FN, hFNe⟩ : ∃ FN, FN = (frees N 160 (top 160)).length := ⟨_, rfl⟩
                      rw [← hFNe] at hFN FRN
                      have hFe : ((FN : Int) == (F : Int) - kk + (G.length : Int)) = true := by simp [hFN]
                      have hFN2 : FN ≤ 1024 := by rw [hFNe]; exact Nat.le_trans (frees_len _ _ _) (top_le _)
                      clear hPE hTX hs9 hs10 hTk hFN hFNe e1 HPA HTBN HPN
                      go_wp2_with fail
                      go_loopw [22] (fun iv wr => ∃ i : Nat, i ≤ T.length ∧ iv = .int .i64 (i : Int) ∧ Below w7.heap.size w7 wr) (fun i _ => T.length - (intOf i).toNat)
                      case atStart => exact ⟨0, by omega, rfl, Below.refl _ _⟩
                      case round =>
                        obtain ⟨i4, hi4, rfl, hbel4⟩ := hrel
                        have HBL := Lib.hid hbel4
                        clear hbel4
                        by_cases hlt4 : i4 < T.length
                        · have hlt4I : (i4 : Int) < (T.length : Int) := by omega
                          have hi40 : (0 : Int) ≤ (i4 : Int) := by omega
                          obtain ⟨x, hx⟩ : ∃ x, T[i4]? = some x := ⟨_, List.getElem?_eq_getElem hlt4⟩
                          obtain ⟨x0, x1, x2, x3⟩ := HTX.out i4 x hx
                          obtain ⟨xn, rfl⟩ := Int.eq_ofNat_of_zero_le x0
                          rw [Int.toNat_natCast] at x2 x3
                          obtain ⟨b9, o9, rfl, hbb9, hcell9⟩ := (HS9.out.on (Nat.le_refl _) HBL.out).at (by omega) (by decide)
                          have hck9 := hcell9 i4 (.int .i64 (xn : Int)) (by rw [List.getElem?_map, hx]; rfl)
                          have hxn : xn < 1024 := by omega
                          obtain ⟨bm, om, hem, hbbm, hcellm⟩ := (HSM.out.on (Nat.le_refl _) (HB7.out.trans (Below.mono HBL.out HB7.out.size))).at (by decide) (by decide)
                          injection hem with hem
                          injection hem with em1 em2
                          subst em1; subst em2
                          have hckm := hcellm xn (.bool false) (by rw [List.getElem?_map]; unfold mapF; rw [List.getElem?_map, List.getElem?_range hxn, ← x2]; rfl)
                          rw [Nat.zero_add] at hckm
                          have HMN : Hid (∀ w', Below wr.heap.size wr w' → Sl w' w'.heap.size 1 A10 128 (N.map bv)) := Lib.hid fun w' hk => (HS10.out.on (Nat.le_refl _) HBL.out).on (Nat.le_refl _) hk
                          have HX3 := Lib.hid x3
                          clear hx hcell9 hcellm x2 x3
                          go_wp2_with fail
                          refine wp_region_rely (by kernel_rfl) (fun d u w' => match d with
                            | 139 => u = (.slice (some ⟨gm, 0, none⟩) 1024 1024 : Value)
                            | 140 => u = (.slice (some ⟨b9, o9, none⟩) T.length c9 : Value)
                            | 141 => u = (.int .i64 (i4 : Int) : Value)
                            | 142 => u = (.pointer (some ⟨b9, o9 + i4, none⟩) : Value)
                            | 143 => u = (.int .i64 (xn : Int) : Value)
                            | 144 => u = (.pointer (some ⟨gm, xn, none⟩) : Value)
                            | 145 => u = (.bool false : Value)
                            | 146 => u = (.bool false : Value)
                            | 147 => u = (.slice A10 128 c10 : Value)
                            | 148 => ∃ gN, u = .slice (some ⟨gN, 0, none⟩) 1024 1024 ∧ gN < w'.heap.size ∧ w'.cell? ⟨gN, xn, none⟩ = some (.bool true)
                            | 149 => u = (.slice (some ⟨b9, o9, none⟩) T.length c9 : Value)
                            | 150 => u = (.int .i64 (i4 : Int) : Value)
                            | 151 => u = (.pointer (some ⟨b9, o9 + i4, none⟩) : Value)
                            | 152 => u = (.int .i64 (xn : Int) : Value)
                            | 153 => ∃ gN, u = .pointer (some ⟨gN, xn, none⟩) ∧ gN < w'.heap.size ∧ w'.cell? ⟨gN, xn, none⟩ = some (.bool true)
                            | 154 => u = (.bool true : Value)
                            | 155 => u = (.bool false : Value)
                            | 156 => u = (.bool false : Value)
                            | _ => True) 176 rfl (by decide +kernel) [156] ?_ ?_
                          · refine AllSteps.cons (Step.move _ rfl rfl fun a w' hl => hl.old 7 rfl) ?_
                            refine AllSteps.cons (Step.move _ rfl rfl fun a w' hl => hl.old 19 rfl) ?_
                            refine AllSteps.cons (Step.move _ rfl rfl fun a w' hl => hl.old 22 rfl) ?_
                            refine AllSteps.cons (Step.plain rfl fun a w' K hl hK => ?_) ?_
                            · obtain ⟨_, _, _, h140⟩ := hl.dep 1 140 rfl rfl
                              replace h140 : a.eval (.tmp 140) = _ := h140
                              obtain ⟨_, _, _, h141⟩ := hl.dep 2 141 rfl rfl
                              replace h141 : a.eval (.tmp 141) = _ := h141
                              refine wp_val (.pointer (some ⟨b9, o9 + i4, none⟩)) ?_ (hK _ _ (Kept.refl _) rfl)
                              clear hl hK
                              generalize a.eval = ρ at *
                              simp [execOp, go_sem, h140, h141]
                              try (intro h; omega)
                            refine AllSteps.cons (Step.plain rfl fun a w' K hl hK => ?_) ?_
                            · obtain ⟨_, _, _, h142⟩ := hl.dep 3 142 rfl rfl
                              replace h142 : a.eval (.tmp 142) = _ := h142
                              have hcell := (Below.cell hl.kept (p := ⟨b9, o9 + i4, none⟩) hbb9).trans hck9
                              refine wp_val (.int .i64 (xn : Int)) ?_ (hK _ _ (Kept.refl _) rfl)
                              clear hl hK
                              generalize a.eval = ρ at *
                              simp [execOp, go_sem, h142, hcell]
                            refine AllSteps.cons (Step.plain rfl fun a w' K hl hK => ?_) ?_
                            · obtain ⟨_, _, _, h139⟩ := hl.dep 0 139 rfl rfl
                              replace h139 : a.eval (.tmp 139) = _ := h139
                              obtain ⟨_, _, _, h143⟩ := hl.dep 4 143 rfl rfl
                              replace h143 : a.eval (.tmp 143) = _ := h143
                              refine wp_val (.pointer (some ⟨gm, xn, none⟩)) ?_ (hK _ _ (Kept.refl _) rfl)
                              clear hl hK
                              generalize a.eval = ρ at *
                              simp [execOp, go_sem, h139, h143]
                              try (intro h; omega)
                            refine AllSteps.cons (Step.plain rfl fun a w' K hl hK => ?_) ?_
                            · obtain ⟨_, _, _, h144⟩ := hl.dep 5 144 rfl rfl
                              replace h144 : a.eval (.tmp 144) = _ := h144
                              have hcell := (Below.cell hl.kept (p := ⟨gm, xn, none⟩) hbbm).trans hckm
                              refine wp_val (.bool false) ?_ (hK _ _ (Kept.refl _) rfl)
                              clear hl hK
                              generalize a.eval = ρ at *
                              simp [execOp, go_sem, h144, hcell]
                            refine AllSteps.cons (Step.move _ rfl rfl fun a w' hl => let ⟨_, _, _, h⟩ := hl.dep 6 145 rfl rfl; h) ?_
                            refine AllSteps.cons (Step.yes 7 false 146 rfl rfl rfl (fun _ _ h => h) fun a w' K hl hK => ?_) ?_
                            · have h20 : a.eval (.tmp 20) = (.slice A10 128 c10 : Value) := hl.old 20 rfl
                              exact wp_val (a.eval (.tmp 20)) rfl (hK _ _ (Kept.refl _) h20)
                            refine AllSteps.cons (Step.yes 7 false 146 rfl rfl rfl (fun _ _ h => h) fun a w' K hl hK => ?_) ?_
                            · obtain ⟨_, _, _, h147⟩ := hl.dep 8 147 rfl rfl
                              replace h147 : a.eval (.tmp 147) = _ := h147
                              refine wp_call rfl Try.func19 rfl rfl #[.slice A10 128 c10] (by simp [h147]) ?_
                              refine (HMPN.out A10 w' (HMN.out w' hl.kept)).mono ?_
                              rintro e w8 ⟨gN, rfl, ho8, hb8⟩
                              have hc8 := (ownB_there ho8 xn hxn).1
                              rw [mapF_at _ hxn, HX3.out] at hc8
                              exact ⟨_, rfl, hK _ _ hb8 ⟨gN, rfl, (own_lt ho8 gN rfl).2, hc8⟩⟩
                            refine AllSteps.cons (Step.yes 7 false 146 rfl rfl rfl (fun _ _ h => h) fun a w' K hl hK => ?_) ?_
                            · have h19 : a.eval (.tmp 19) = (.slice (some ⟨b9, o9, none⟩) T.length c9 : Value) := hl.old 19 rfl
                              exact wp_val (a.eval (.tmp 19)) rfl (hK _ _ (Kept.refl _) h19)
                            refine AllSteps.cons (Step.yes 7 false 146 rfl rfl rfl (fun _ _ h => h) fun a w' K hl hK => ?_) ?_
                            · have h22 : a.eval (.tmp 22) = (.int .i64 (i4 : Int) : Value) := hl.old 22 rfl
                              exact wp_val (a.eval (.tmp 22)) rfl (hK _ _ (Kept.refl _) h22)
                            refine AllSteps.cons (Step.yes 7 false 146 rfl rfl rfl (fun _ _ h => h) fun a w' K hl hK => ?_) ?_
                            · obtain ⟨_, _, _, h149⟩ := hl.dep 10 149 rfl rfl
                              replace h149 : a.eval (.tmp 149) = _ := h149
                              obtain ⟨_, _, _, h150⟩ := hl.dep 11 150 rfl rfl
                              replace h150 : a.eval (.tmp 150) = _ := h150
                              refine wp_val (.pointer (some ⟨b9, o9 + i4, none⟩)) ?_ (hK _ _ (Kept.refl _) rfl)
                              clear hl hK
                              generalize a.eval = ρ at *
                              simp [execOp, go_sem, h149, h150]
                              try (intro h; omega)
                            refine AllSteps.cons (Step.yes 7 false 146 rfl rfl rfl (fun _ _ h => h) fun a w' K hl hK => ?_) ?_
                            · obtain ⟨_, _, _, h151⟩ := hl.dep 12 151 rfl rfl
                              replace h151 : a.eval (.tmp 151) = _ := h151
                              have hcell := (Below.cell hl.kept (p := ⟨b9, o9 + i4, none⟩) hbb9).trans hck9
                              refine wp_val (.int .i64 (xn : Int)) ?_ (hK _ _ (Kept.refl _) rfl)
                              clear hl hK
                              generalize a.eval = ρ at *
                              simp [execOp, go_sem, h151, hcell]
                            refine AllSteps.cons (Step.yes 7 false 146 rfl rfl rfl (fun _ _ h => h) fun a w' K hl hK => ?_) ?_
                            · obtain ⟨_, w1, hk1, gN, h148, hgN, hcN⟩ := hl.dep 9 148 rfl rfl
                              obtain ⟨_, _, _, h152⟩ := hl.dep 13 152 rfl rfl
                              replace h152 : a.eval (.tmp 152) = _ := h152
                              refine wp_val (.pointer (some ⟨gN, xn, none⟩)) ?_ (hK _ _ (Kept.refl _) ⟨gN, rfl, Nat.lt_of_lt_of_le hgN hk1.size, (Below.cell hk1 (p := ⟨gN, xn, none⟩) hgN).trans hcN⟩)
                              clear hl hK
                              generalize a.eval = ρ at *
                              simp [execOp, go_sem, h148, h152]
                              try (intro h; omega)
                            refine AllSteps.cons (Step.yes 7 false 146 rfl rfl rfl (fun _ _ h => h) fun a w' K hl hK => ?_) ?_
                            · obtain ⟨_, w1, hk1, gN, h153, hgN, hcN⟩ := hl.dep 14 153 rfl rfl
                              refine wp_val (.bool true) ?_ (hK _ _ (Kept.refl _) rfl)
                              have hcell := (Below.cell hk1 (p := ⟨gN, xn, none⟩) hgN).trans hcN
                              clear hl hK
                              generalize a.eval = ρ at *
                              simp [execOp, go_sem, h153, hcell]
                            refine AllSteps.cons (Step.yes 7 false 146 rfl rfl rfl (fun _ _ h => h) fun a w' K hl hK => ?_) ?_
                            · obtain ⟨_, _, _, h154⟩ := hl.dep 15 154 rfl rfl
                              replace h154 : a.eval (.tmp 154) = _ := h154
                              refine wp_val (.bool false) ?_ (hK _ _ (Kept.refl _) rfl)
                              clear hl hK
                              generalize a.eval = ρ at *
                              simp [execOp, go_sem, h154]
                            refine AllSteps.cons (Step.plain rfl fun a w' K hl hK => ?_) ?_
                            · obtain ⟨_, _, _, h146⟩ := hl.dep 7 146 rfl rfl
                              replace h146 : a.eval (.tmp 146) = _ := h146
                              obtain ⟨_, _, _, h155⟩ := hl.dep 16 155 rfl rfl
                              replace h155 : a.eval (.tmp 155) = _ := h155
                              exact wp_pick rfl false h146 (hK _ _ (Kept.refl _) h155)
                            exact AllSteps.nil
                          · intro f w9 hk9 hf
                            obtain ⟨_, _, h156⟩ := hf 156 rfl rfl
                            replace h156 : f 156 = .bool false := h156
                            simp only [Exit.then, fill, dsts, List.filterMap_cons, List.filterMap_nil, List.foldl_cons, List.foldl_nil, Act.put, h156, List.setIfInBounds_toArray, List.set_cons_succ, List.set_cons_zero]
                            clear hf
                            have HB9 := Lib.hid (HBL.out.trans (Below.mono hk9 HBL.out.size))
                            clear hk9
                            go_wp2_with fail
                            go_roundw
                            case rel => exact ⟨i4 + 1, by omega, by go_num, HB9.out⟩
                            case measure => simp [intOf]; omega
                        · have hge4 : (T.length : Int) ≤ (i4 : Int) := by omega
                          go_wp2_with fail
                          refine (FRN.out A10 c10 _ (HS10.out.on (Nat.le_refl _) HBL.out)).mono ?_
                          rintro e w9 ⟨A11, c11, rfl, hb9⟩
                          have HB9 := Lib.hid (HBL.out.trans (Below.mono hb9 HBL.out.size))
                          clear hb9
                          go_wp2_with fail
                          refine (Al.awake_any _).mono ?_
                          rintro e w10 ⟨rfl, hb10⟩
                          have HB10 := Lib.hid (HB9.out.trans (Below.mono hb10 HB9.out.size))
                          clear hb10
                          go_wp2_with fail
                          go_ret
                          exact ⟨rfl, (HB3.out.trans (Below.mono HB7.out hz3)).trans (Below.mono HB10.out (Nat.le_trans hz3 HB7.out.size))⟩
                  · have hpn := HTBN.out (HTB.out.trans (decide_eq_false hkF))
                    rcases hp7 with ⟨_, rfl, _⟩ | ⟨T, N2, A9, c9, A10, c10, hn, _⟩
                    · clear hpn HPA
                      go_wp2_with fail
                      refine (Al.awake_any _).mono ?_
                      rintro e w10 ⟨rfl, hb10⟩
                      have HB10 := Lib.hid (HB7.out.trans (Below.mono hb10 HB7.out.size))
                      clear hb10
                      go_wp2_with fail
                      go_ret
                      exact ⟨rfl, HB3.out.trans (Below.mono HB10.out hz3)⟩
                    · rw [hpn] at hn
                      cases hn
      · have hAI : (us.length : Int) ≤ (i : Int) := by omega
        clear hlt
        obtain ⟨Ah, ch, rfl, hch, _, hsh⟩ := Mine.form (.inr HOH.out)
        have RB := Lib.hid (rbytes_any (some ⟨gm, 0, none⟩) (bitN M) 1024 wr (Sl.own HOM.out))
        rw [bS_back HM.out] at RB
        go_wp2_with fail
        refine RB.out.mono ?_
        rintro e w3 ⟨gb, rfl, ho3, hb3⟩
        have HSB := Lib.hid (Sl.own ho3)
        have HSM := Lib.hid ((Sl.own HOM.out).on (Nat.le_refl _) hb3)
        have HSH := Lib.hid (hsh.on (Nat.le_refl _) hb3)
        have HB3 := Lib.hid (HB.out.trans (Below.mono hb3 HB.out.size))
        have hz3 := HB3.out.size
        clear ho3 hb3 hsh hsz
        go_wp2_with fail
        go_loopw [14, 13] (fun iv tv wr => ∃ i : Nat, i ≤ H.length ∧ iv = .int .i64 (i : Int) ∧ wr.ownsRow w3.heap.size 4 1 tv i ((List.replicate i false).map Value.bool) ∧ Below w3.heap.size w3 wr) (fun i _ _ => H.length - (intOf i).toNat)
        case atStart => exact ⟨0, by omega, rfl, World.ownsRow_nil _ _ _ _, Below.refl _ _⟩
        case round =>
          obtain ⟨i2, hi2, rfl, hown, hbel⟩ := hrel
          have HOT := Lib.hid hown
          have HBT := Lib.hid hbel
          have hBT := hbel.size
          clear hown hbel
          by_cases hlt2 : i2 < H.length
          · have hlt2I : (i2 : Int) < (H.length : Int) := by omega
            have hi20 : (0 : Int) ≤ (i2 : Int) := by omega
            go_wp2_with (at_builtin; refine wpList_append_mine rfl (.tmp 61) (.tmp 62) _ _ rfl w3.heap.size 4 i1 (.bool false) 1 1 hy1 hy2 rfl (by decide) _ _ _ rfl (Mine.alloc (.inr HOT.out) _) _ 1 [.bool false] rfl (Gives.elem Try.underlying32 hi1 hy0 hy1 _ rfl) (by simp only [maxLen]; omega) (by omega) (by simp; omega) ?_; intro A5 c5 w5 hm5 hg5 hb5 hat5 hown5)
            have ho5 := hown5 (.inl (by decide))
            have HO5 := Lib.hid ho5
            have HB5 := Lib.hid ((HBT.out.alloc hBT _).trans hb5)
            clear ho5 hown5 hat5 hg5 hm5 hb5
            go_wp2_with fail
            go_roundw
            case rel => exact ⟨i2 + 1, by omega, by go_num, by rw [List.replicate_succ', List.map_append]; exact HO5.out, HB5.out⟩
            case measure => simp [intOf]; omega
          · have hge2 : (H.length : Int) ≤ (i2 : Int) := by omega
            obtain rfl : i2 = H.length := by omega
            obtain ⟨w4, rfl⟩ : ∃ w4 : World, w4 = wr := ⟨_, rfl⟩
            have HLT := Lib.hid (own_lt HOT.out)
            go_wp2_with fail
            go_loopw [15, 12] (fun iv gv wr => ∃ (i : Nat) (TK : List Bool) (G : List Int), i ≤ gs.length ∧ i ≤ 30 ∧ iv = .int .i64 (i : Int) ∧ TK.length = H.length ∧ G.length ≤ i ∧ G.Nodup ∧ (∀ g ∈ G, g ∈ H) ∧ (∀ (k : Nat) (x : Int), H[k]? = some x → TK.getD k false = false → x ∉ G) ∧
              wr.ownsRow w3.heap.size 4 1 u13 H.length (TK.map Value.bool) ∧ wr.ownsRow w4.heap.size 3 1 gv G.length (G.map (Value.int .i64)) ∧ Below w3.heap.size w3 wr ∧ w4.heap.size ≤ wr.heap.size) (fun i _ _ => gs.length - (intOf i).toNat)
            case atStart => exact ⟨0, List.replicate H.length false, [], by omega, by omega, rfl, by simp, Nat.le_refl _, List.nodup_nil, by simp, by simp, HOT.out, World.ownsRow_nil _ _ _ _, HBT.out, Nat.le_refl _⟩
            case round =>
              obtain ⟨i3, TK, G, hi3, hi30, rfl, hTK, hGl, hGn, hGH, hGK, hownt, howng, hbel, hsz⟩ := hrel
              have HTK := Lib.hid hTK
              have HGN := Lib.hid hGn
              have HGH := Lib.hid hGH
              have HGK := Lib.hid hGK
              have HOT3 := Lib.hid hownt
              have HOG3 := Lib.hid howng
              have HB3R := Lib.hid hbel
              have hb3s := hbel.size
              clear hTK hGn hGH hGK hownt howng hbel
              by_cases hlt3 : i3 < gs.length ∧ 0 < H.length ∧ i3 < 30
              · obtain ⟨hlt3, hH0, hlt30⟩ := hlt3
                have hlt3I : (i3 : Int) < (gs.length : Int) := by omega
                have hlt30I : (i3 : Int) < 30 := by omega
                have hH0I : (0 : Int) < (H.length : Int) := by omega
                have hi30' : (0 : Int) ≤ (i3 : Int) := by omega
                obtain ⟨z, hz⟩ : ∃ z, gs[i3]? = some z := ⟨_, List.getElem?_eq_getElem hlt3⟩
                obtain ⟨b1, off1, rfl, hbb1, hcell1⟩ := HG0.out.at (by omega) (by decide)
                have hck1 := (Below.cell (HB3.out.trans (Below.mono HB3R.out hz3)) (p := ⟨b1, off1 + i3, none⟩) hbb1).trans (hcell1 i3 (.int .i64 z) (by rw [List.getElem?_map, hz]; rfl))
                obtain ⟨z1, z2⟩ := HGB.out z (List.mem_of_getElem? hz)
                have PZ := Lib.hid (fun w => Pl.place_any z (H.length : Int) w (by omega) (by omega) z1 z2)
                obtain ⟨q0, q1⟩ := Pl.place_bd z (H.length : Int) (by omega)
                generalize Pl.placeZ z (H.length : Int) = q at *
                obtain ⟨q, rfl⟩ := Int.eq_ofNat_of_zero_le q0
                clear hz hbb1 hcell1 z1 z2
                have hq : q < H.length := by omega
                obtain ⟨x, hx⟩ : ∃ x, H[q]? = some x := ⟨_, List.getElem?_eq_getElem hq⟩
                have hTV := HOT3.out.2
                rcases hTV with ⟨_, h0⟩ | ⟨gt, ct, cur, hv, hgtb, hgg, _⟩
                · omega
                subst hv
                have hgt4 := (HLT.out gt rfl).2
                obtain ⟨hcm, hfm⟩ := ownB_there HOT3.out q hq
                clear hgg
                cases hb : TK.getD q false
                · rw [hb] at hcm
                  have hst := ownB_set HOT3.out q true
                  have HST := Lib.hid hst
                  have HON := Lib.hid (Only.setCell gt q wr (.bool true))
                  have hnot := HGK.out q x hx hb
                  have HNX := Lib.hid (nodup_snoc HGN.out hnot)
                  have hxH := List.mem_of_getElem? hx
                  have HGX : Hid (∀ g ∈ G ++ [x], g ∈ H) := Lib.hid fun h hm => by
                    rcases List.mem_append.1 hm with hm | hm
                    · exact HGH.out h hm
                    · rw [List.mem_singleton.1 hm]; exact hxH
                  have HKX : Hid (∀ (k : Nat) (y : Int), H[k]? = some y → (TK.set q true).getD k false = false → y ∉ G ++ [x]) := Lib.hid fun k y hy hk hm => by
                    have hkq : k ≠ q := by
                      rintro rfl
                      rw [List.getD_eq_getElem?_getD, List.getElem?_set_self (by rw [HTK.out]; omega)] at hk
                      cases hk
                    rw [List.getD_eq_getElem?_getD, List.getElem?_set_ne (fun e => hkq e.symm), ← List.getD_eq_getElem?_getD] at hk
                    rcases List.mem_append.1 hm with hm | hm
                    · exact HGK.out k y hy hk hm
                    · rw [List.mem_singleton.1 hm] at hy
                      exact hkq ((List.getElem?_inj (List.getElem?_eq_some_iff.1 hy).1 HND.out).1 (hy.trans hx.symm))
                  have HCX : Hid (∀ w', Below w3.heap.size w3 w' → ∃ bh oh, Ah = some ⟨bh, oh, none⟩ ∧ w'.cell? ⟨bh, oh + q, none⟩ = some (.int .i64 x)) := Lib.hid fun w' hk => by
                    obtain ⟨bh, oh, e, hbb, hcell⟩ := (HSH.out.below hk).at (by omega) (by decide)
                    exact ⟨bh, oh, e, hcell q (.int .i64 x) (by rw [List.getElem?_map, hx]; rfl)⟩
                  obtain ⟨bh, oh, rfl, hch3⟩ := HCX.out wr HB3R.out
                  clear hst hnot hxH hb hx
                  go_wp2_with fail
                  refine (PZ.out _).mono ?_
                  rintro e w' ⟨rfl, rfl⟩
                  go_wp2_with (first
                    | ((with_reducible show wpList _ _ _ (⟨none, Op.store _ (.tmp 93) _, _, _, _, _⟩ :: _) _ _); refine wpList_store_bool rfl _ _ rfl hcm hfm rfl rfl ?_; intro w6 hw6; have hon6 := HON.out; have hst6 := HST.out; rw [← hw6] at hon6 hst6; clear hw6 hcm hfm hch3; have hb6 := hon6.below HB3R.out hgtb; have hcell6 : w6.cell? ⟨bh, oh + q, none⟩ = some (.int .i64 x) := (by obtain ⟨_, _, e, h⟩ := HCX.out w6 hb6; injection e with e; injection e with e1 e2; subst e1; subst e2; exact h))
                    | (at_builtin; refine wpList_append_mine rfl (.tmp 94) (.tmp 99) _ _ rfl w4.heap.size 3 i0 (.int .i64 0) 1 8 hz1 hz2 rfl (by decide) _ _ _ rfl (Mine.alloc (.inr (own_only HOG3.out hon6 hgt4)) _) _ 1 [.int .i64 x] rfl (Gives.elem Try.underlying25 hi0 hz0 hz1 _ rfl) (by simp only [maxLen]; omega) (by omega) (by have := hon6.size; simp; omega) ?_; intro A5 c5 w5 hm5 hg5 hb5 hat5 hown5))
                  have ho5 := hown5 (.inl (by decide))
                  have HO5 := Lib.hid ho5
                  have hsz6 := hon6.size
                  have HOT5 := Lib.hid (own_keptB (hst6.alloc _) hb5 hgt4)
                  have HB5 := Lib.hid ((hb6.alloc (by omega) _).trans (Below.mono hb5 (Nat.le_trans HBT.out.size (Nat.le_refl _))))
                  have hsz5 : w4.heap.size ≤ w5.heap.size := by have := hb5.size; simp at this; omega
                  clear ho5 hown5 hat5 hg5 hm5 hb5 hon6 hst6 hb6 hcell6
                  go_wp2_with fail
                  go_roundw
                  case rel => exact ⟨i3 + 1, TK.set q true, G ++ [x], by omega, by omega, by go_num, by rw [List.length_set]; exact HTK.out, by simp; omega, HNX.out, HGX.out, HKX.out, HOT5.out, by simpa using HO5.out, HB5.out, hsz5⟩
                  case measure => simp [intOf]; omega
                · rw [hb] at hcm
                  clear hb hx
                  go_wp2_with fail
                  refine (PZ.out _).mono ?_
                  rintro e w' ⟨rfl, rfl⟩
                  go_wp2_with fail
                  go_roundw
                  case rel => exact ⟨i3 + 1, TK, G, by omega, by omega, by go_num, HTK.out, by omega, HGN.out, HGH.out, HGK.out, HOT3.out, HOG3.out, HB3R.out, hsz⟩
                  case measure => simp [intOf]; omega
              · have hcs : (gs.length ≤ i3) ∨ (i3 < gs.length ∧ H.length = 0) ∨ (i3 < gs.length ∧ 0 < H.length ∧ 30 ≤ i3) := by omega
                rcases hcs with hx1 | ⟨hx1, hx2⟩ | ⟨hx1, hx2, hx3⟩
                · have hx1I : (gs.length : Int) ≤ (i3 : Int) := by omega
                  clear hlt3
                  obtain ⟨A4, c4, rfl, hc4, _, hs4⟩ := Mine.form (.inr HOG3.out)
                  have HS4 := Lib.hid hs4
                  have FRM := Lib.hid (CFR.out M HM.out _ 128 _ (HSB.out.on (Nat.le_refl _) HB3R.out))
                  have hGG : ∀ g ∈ G, 74 ≤ g ∧ g < 160 ∧ g < 1024 ∧ bitN M g.toNat = true := fun g hg => by
                    obtain ⟨a, b, c⟩ := HH.out g (HGH.out g hg)
                    exact ⟨a, b, by omega, c⟩
                  have HPA := Lib.hid (plan_all HM.out 160 kk G HGN.out hGG)
                  have HPN := Lib.hid (planN (L := M) HM.out.symm (by decide))
                  obtain ⟨F, hF⟩ : ∃ F, F = (frees M 160 (top 160)).length := ⟨_, rfl⟩
                  have hFk : F ≤ 1024 := by rw [hF]; exact Nat.le_trans (frees_len _ _ _) (top_le _)
                  have htb : takeB M 160 kk = decide (kk ≤ (F : Int)) := by rw [hF]; unfold takeB; simp [p0]
                  rw [← hF] at FRM HPA
                  have hTBN : takeB M 160 kk = false → planM M 160 kk G = none := fun h => by unfold planM; rw [if_neg (by rw [h]; simp)]
                  have HTBN := Lib.hid hTBN
                  have HTB := Lib.hid htb
                  clear hs4 hGG hF htb hTBN
                  go_wp2_with fail
                  refine FRM.out.mono ?_
                  rintro e w5 ⟨A5, c5, rfl, hb5⟩
                  have HB5 := Lib.hid (HB3R.out.trans (Below.mono hb5 hb3s))
                  have HS45 := Lib.hid (HS4.out.on (Nat.le_refl _) hb5)
                  clear hb5
                  go_wp2_with fail
                  refine (PN.out _).mono ?_
                  rintro e w' ⟨rfl, rfl⟩
                  go_wp2_with fail
                  refine (bytesN (L := M) HM.out.symm (by decide) _ 128 _ (HSB.out.on (Nat.le_refl _) HB5.out) (Nat.le_refl _)).mono ?_
                  rintro e w6 ⟨A6, c6, rfl, hs6, hc6, hb6⟩
                  have HS6 := Lib.hid hs6
                  have HS46 := Lib.hid (HS45.out.on (Nat.le_refl _) hb6)
                  have HB6 := Lib.hid (HB5.out.trans (Below.mono hb6 HB5.out.size))
                  clear hs6 hb6
                  go_wp2_with fail
                  refine (HPN.out A6 c6 160 kk A4 G c4 w6 HS6.out hc6 HS46.out (by omega)).mono ?_
                  rintro e w7 hp7
                  have hb7 : Below w6.heap.size w6 w7 := by rcases hp7 with ⟨_, _, h⟩ | ⟨_, _, _, _, _, _, _, _, _, _, _, _, h⟩ <;> exact h
                  have HB7 := Lib.hid (HB6.out.trans (Below.mono hb7 HB6.out.size))
                  clear hb7
                  by_cases hkF : kk ≤ (F : Int)
                  · obtain ⟨N, hPE, hN128, hTk, hFN, hTX⟩ := HPA.out (HTB.out.trans (decide_eq_true hkF))
                    rcases hp7 with ⟨hn, _⟩ | ⟨T, N2, A9, c9, A10, c10, hn, rfl, hs9, hc9, hs10, hm10, _⟩
                    · rw [hPE] at hn
                      cases hn
                    · rw [hPE] at hn
                      injection hn with hn
                      injection hn with e1 e2
                      subst e2
                      have HS9 := Lib.hid hs9
                      have HS10 := Lib.hid hs10
                      rw [e1] at hTk hTX
                      have HTX := Lib.hid hTX
                      have hTe : ((T.length : Int) == kk) = true := by simp [hTk]
                      have hT60 : T.length ≤ 60 := by omega
                      have FRN := Lib.hid (CFR.out N hN128)
                      have HMPN := Lib.hid (fun A w hs => rmap_yes A N hN128 c10 w hs)
                      obtain ⟨FN, hFNe⟩ : ∃ FN, FN = (frees N 160 (top 160)).length := ⟨_, rfl⟩
                      rw [← hFNe] at hFN FRN
                      have hFe : ((FN : Int) == (F : Int) - kk + (G.length : Int)) = true := by simp [hFN]
                      have hFN2 : FN ≤ 1024 := by rw [hFNe]; exact Nat.le_trans (frees_len _ _ _) (top_le _)
                      clear hPE hTX hs9 hs10 hTk hFN hFNe e1 HPA HTBN HPN
                      go_wp2_with fail
                      go_loopw [22] (fun iv wr => ∃ i : Nat, i ≤ T.length ∧ iv = .int .i64 (i : Int) ∧ Below w7.heap.size w7 wr) (fun i _ => T.length - (intOf i).toNat)
                      case atStart => exact ⟨0, by omega, rfl, Below.refl _ _⟩
                      case round =>
                        obtain ⟨i4, hi4, rfl, hbel4⟩ := hrel
                        have HBL := Lib.hid hbel4
                        clear hbel4
                        by_cases hlt4 : i4 < T.length
                        · have hlt4I : (i4 : Int) < (T.length : Int) := by omega
                          have hi40 : (0 : Int) ≤ (i4 : Int) := by omega
                          obtain ⟨x, hx⟩ : ∃ x, T[i4]? = some x := ⟨_, List.getElem?_eq_getElem hlt4⟩
                          obtain ⟨x0, x1, x2, x3⟩ := HTX.out i4 x hx
                          obtain ⟨xn, rfl⟩ := Int.eq_ofNat_of_zero_le x0
                          rw [Int.toNat_natCast] at x2 x3
                          obtain ⟨b9, o9, rfl, hbb9, hcell9⟩ := (HS9.out.on (Nat.le_refl _) HBL.out).at (by omega) (by decide)
                          have hck9 := hcell9 i4 (.int .i64 (xn : Int)) (by rw [List.getElem?_map, hx]; rfl)
                          have hxn : xn < 1024 := by omega
                          obtain ⟨bm, om, hem, hbbm, hcellm⟩ := (HSM.out.on (Nat.le_refl _) (HB7.out.trans (Below.mono HBL.out HB7.out.size))).at (by decide) (by decide)
                          injection hem with hem
                          injection hem with em1 em2
                          subst em1; subst em2
                          have hckm := hcellm xn (.bool false) (by rw [List.getElem?_map]; unfold mapF; rw [List.getElem?_map, List.getElem?_range hxn, ← x2]; rfl)
                          rw [Nat.zero_add] at hckm
                          have HMN : Hid (∀ w', Below wr.heap.size wr w' → Sl w' w'.heap.size 1 A10 128 (N.map bv)) := Lib.hid fun w' hk => (HS10.out.on (Nat.le_refl _) HBL.out).on (Nat.le_refl _) hk
                          have HX3 := Lib.hid x3
                          clear hx hcell9 hcellm x2 x3
                          go_wp2_with fail
                          refine wp_region_rely (by kernel_rfl) (fun d u w' => match d with
                            | 139 => u = (.slice (some ⟨gm, 0, none⟩) 1024 1024 : Value)
                            | 140 => u = (.slice (some ⟨b9, o9, none⟩) T.length c9 : Value)
                            | 141 => u = (.int .i64 (i4 : Int) : Value)
                            | 142 => u = (.pointer (some ⟨b9, o9 + i4, none⟩) : Value)
                            | 143 => u = (.int .i64 (xn : Int) : Value)
                            | 144 => u = (.pointer (some ⟨gm, xn, none⟩) : Value)
                            | 145 => u = (.bool false : Value)
                            | 146 => u = (.bool false : Value)
                            | 147 => u = (.slice A10 128 c10 : Value)
                            | 148 => ∃ gN, u = .slice (some ⟨gN, 0, none⟩) 1024 1024 ∧ gN < w'.heap.size ∧ w'.cell? ⟨gN, xn, none⟩ = some (.bool true)
                            | 149 => u = (.slice (some ⟨b9, o9, none⟩) T.length c9 : Value)
                            | 150 => u = (.int .i64 (i4 : Int) : Value)
                            | 151 => u = (.pointer (some ⟨b9, o9 + i4, none⟩) : Value)
                            | 152 => u = (.int .i64 (xn : Int) : Value)
                            | 153 => ∃ gN, u = .pointer (some ⟨gN, xn, none⟩) ∧ gN < w'.heap.size ∧ w'.cell? ⟨gN, xn, none⟩ = some (.bool true)
                            | 154 => u = (.bool true : Value)
                            | 155 => u = (.bool false : Value)
                            | 156 => u = (.bool false : Value)
                            | _ => True) 176 rfl (by decide +kernel) [156] ?_ ?_
                          · refine AllSteps.cons (Step.move _ rfl rfl fun a w' hl => hl.old 7 rfl) ?_
                            refine AllSteps.cons (Step.move _ rfl rfl fun a w' hl => hl.old 19 rfl) ?_
                            refine AllSteps.cons (Step.move _ rfl rfl fun a w' hl => hl.old 22 rfl) ?_
                            refine AllSteps.cons (Step.plain rfl fun a w' K hl hK => ?_) ?_
                            · obtain ⟨_, _, _, h140⟩ := hl.dep 1 140 rfl rfl
                              replace h140 : a.eval (.tmp 140) = _ := h140
                              obtain ⟨_, _, _, h141⟩ := hl.dep 2 141 rfl rfl
                              replace h141 : a.eval (.tmp 141) = _ := h141
                              refine wp_val (.pointer (some ⟨b9, o9 + i4, none⟩)) ?_ (hK _ _ (Kept.refl _) rfl)
                              clear hl hK
                              generalize a.eval = ρ at *
                              simp [execOp, go_sem, h140, h141]
                              try (intro h; omega)
                            refine AllSteps.cons (Step.plain rfl fun a w' K hl hK => ?_) ?_
                            · obtain ⟨_, _, _, h142⟩ := hl.dep 3 142 rfl rfl
                              replace h142 : a.eval (.tmp 142) = _ := h142
                              have hcell := (Below.cell hl.kept (p := ⟨b9, o9 + i4, none⟩) hbb9).trans hck9
                              refine wp_val (.int .i64 (xn : Int)) ?_ (hK _ _ (Kept.refl _) rfl)
                              clear hl hK
                              generalize a.eval = ρ at *
                              simp [execOp, go_sem, h142, hcell]
                            refine AllSteps.cons (Step.plain rfl fun a w' K hl hK => ?_) ?_
                            · obtain ⟨_, _, _, h139⟩ := hl.dep 0 139 rfl rfl
                              replace h139 : a.eval (.tmp 139) = _ := h139
                              obtain ⟨_, _, _, h143⟩ := hl.dep 4 143 rfl rfl
                              replace h143 : a.eval (.tmp 143) = _ := h143
                              refine wp_val (.pointer (some ⟨gm, xn, none⟩)) ?_ (hK _ _ (Kept.refl _) rfl)
                              clear hl hK
                              generalize a.eval = ρ at *
                              simp [execOp, go_sem, h139, h143]
                              try (intro h; omega)
                            refine AllSteps.cons (Step.plain rfl fun a w' K hl hK => ?_) ?_
                            · obtain ⟨_, _, _, h144⟩ := hl.dep 5 144 rfl rfl
                              replace h144 : a.eval (.tmp 144) = _ := h144
                              have hcell := (Below.cell hl.kept (p := ⟨gm, xn, none⟩) hbbm).trans hckm
                              refine wp_val (.bool false) ?_ (hK _ _ (Kept.refl _) rfl)
                              clear hl hK
                              generalize a.eval = ρ at *
                              simp [execOp, go_sem, h144, hcell]
                            refine AllSteps.cons (Step.move _ rfl rfl fun a w' hl => let ⟨_, _, _, h⟩ := hl.dep 6 145 rfl rfl; h) ?_
                            refine AllSteps.cons (Step.yes 7 false 146 rfl rfl rfl (fun _ _ h => h) fun a w' K hl hK => ?_) ?_
                            · have h20 : a.eval (.tmp 20) = (.slice A10 128 c10 : Value) := hl.old 20 rfl
                              exact wp_val (a.eval (.tmp 20)) rfl (hK _ _ (Kept.refl _) h20)
                            refine AllSteps.cons (Step.yes 7 false 146 rfl rfl rfl (fun _ _ h => h) fun a w' K hl hK => ?_) ?_
                            · obtain ⟨_, _, _, h147⟩ := hl.dep 8 147 rfl rfl
                              replace h147 : a.eval (.tmp 147) = _ := h147
                              refine wp_call rfl Try.func19 rfl rfl #[.slice A10 128 c10] (by simp [h147]) ?_
                              refine (HMPN.out A10 w' (HMN.out w' hl.kept)).mono ?_
                              rintro e w8 ⟨gN, rfl, ho8, hb8⟩
                              have hc8 := (ownB_there ho8 xn hxn).1
                              rw [mapF_at _ hxn, HX3.out] at hc8
                              exact ⟨_, rfl, hK _ _ hb8 ⟨gN, rfl, (own_lt ho8 gN rfl).2, hc8⟩⟩
                            refine AllSteps.cons (Step.yes 7 false 146 rfl rfl rfl (fun _ _ h => h) fun a w' K hl hK => ?_) ?_
                            · have h19 : a.eval (.tmp 19) = (.slice (some ⟨b9, o9, none⟩) T.length c9 : Value) := hl.old 19 rfl
                              exact wp_val (a.eval (.tmp 19)) rfl (hK _ _ (Kept.refl _) h19)
                            refine AllSteps.cons (Step.yes 7 false 146 rfl rfl rfl (fun _ _ h => h) fun a w' K hl hK => ?_) ?_
                            · have h22 : a.eval (.tmp 22) = (.int .i64 (i4 : Int) : Value) := hl.old 22 rfl
                              exact wp_val (a.eval (.tmp 22)) rfl (hK _ _ (Kept.refl _) h22)
                            refine AllSteps.cons (Step.yes 7 false 146 rfl rfl rfl (fun _ _ h => h) fun a w' K hl hK => ?_) ?_
                            · obtain ⟨_, _, _, h149⟩ := hl.dep 10 149 rfl rfl
                              replace h149 : a.eval (.tmp 149) = _ := h149
                              obtain ⟨_, _, _, h150⟩ := hl.dep 11 150 rfl rfl
                              replace h150 : a.eval (.tmp 150) = _ := h150
                              refine wp_val (.pointer (some ⟨b9, o9 + i4, none⟩)) ?_ (hK _ _ (Kept.refl _) rfl)
                              clear hl hK
                              generalize a.eval = ρ at *
                              simp [execOp, go_sem, h149, h150]
                              try (intro h; omega)
                            refine AllSteps.cons (Step.yes 7 false 146 rfl rfl rfl (fun _ _ h => h) fun a w' K hl hK => ?_) ?_
                            · obtain ⟨_, _, _, h151⟩ := hl.dep 12 151 rfl rfl
                              replace h151 : a.eval (.tmp 151) = _ := h151
                              have hcell := (Below.cell hl.kept (p := ⟨b9, o9 + i4, none⟩) hbb9).trans hck9
                              refine wp_val (.int .i64 (xn : Int)) ?_ (hK _ _ (Kept.refl _) rfl)
                              clear hl hK
                              generalize a.eval = ρ at *
                              simp [execOp, go_sem, h151, hcell]
                            refine AllSteps.cons (Step.yes 7 false 146 rfl rfl rfl (fun _ _ h => h) fun a w' K hl hK => ?_) ?_
                            · obtain ⟨_, w1, hk1, gN, h148, hgN, hcN⟩ := hl.dep 9 148 rfl rfl
                              obtain ⟨_, _, _, h152⟩ := hl.dep 13 152 rfl rfl
                              replace h152 : a.eval (.tmp 152) = _ := h152
                              refine wp_val (.pointer (some ⟨gN, xn, none⟩)) ?_ (hK _ _ (Kept.refl _) ⟨gN, rfl, Nat.lt_of_lt_of_le hgN hk1.size, (Below.cell hk1 (p := ⟨gN, xn, none⟩) hgN).trans hcN⟩)
                              clear hl hK
                              generalize a.eval = ρ at *
                              simp [execOp, go_sem, h148, h152]
                              try (intro h; omega)
                            refine AllSteps.cons (Step.yes 7 false 146 rfl rfl rfl (fun _ _ h => h) fun a w' K hl hK => ?_) ?_
                            · obtain ⟨_, w1, hk1, gN, h153, hgN, hcN⟩ := hl.dep 14 153 rfl rfl
                              refine wp_val (.bool true) ?_ (hK _ _ (Kept.refl _) rfl)
                              have hcell := (Below.cell hk1 (p := ⟨gN, xn, none⟩) hgN).trans hcN
                              clear hl hK
                              generalize a.eval = ρ at *
                              simp [execOp, go_sem, h153, hcell]
                            refine AllSteps.cons (Step.yes 7 false 146 rfl rfl rfl (fun _ _ h => h) fun a w' K hl hK => ?_) ?_
                            · obtain ⟨_, _, _, h154⟩ := hl.dep 15 154 rfl rfl
                              replace h154 : a.eval (.tmp 154) = _ := h154
                              refine wp_val (.bool false) ?_ (hK _ _ (Kept.refl _) rfl)
                              clear hl hK
                              generalize a.eval = ρ at *
                              simp [execOp, go_sem, h154]
                            refine AllSteps.cons (Step.plain rfl fun a w' K hl hK => ?_) ?_
                            · obtain ⟨_, _, _, h146⟩ := hl.dep 7 146 rfl rfl
                              replace h146 : a.eval (.tmp 146) = _ := h146
                              obtain ⟨_, _, _, h155⟩ := hl.dep 16 155 rfl rfl
                              replace h155 : a.eval (.tmp 155) = _ := h155
                              exact wp_pick rfl false h146 (hK _ _ (Kept.refl _) h155)
                            exact AllSteps.nil
                          · intro f w9 hk9 hf
                            obtain ⟨_, _, h156⟩ := hf 156 rfl rfl
                            replace h156 : f 156 = .bool false := h156
                            simp only [Exit.then, fill, dsts, List.filterMap_cons, List.filterMap_nil, List.foldl_cons, List.foldl_nil, Act.put, h156, List.setIfInBounds_toArray, List.set_cons_succ, List.set_cons_zero]
                            clear hf
                            have HB9 := Lib.hid (HBL.out.trans (Below.mono hk9 HBL.out.size))
                            clear hk9
                            go_wp2_with fail
                            go_roundw
                            case rel => exact ⟨i4 + 1, by omega, by go_num, HB9.out⟩
                            case measure => simp [intOf]; omega
                        · have hge4 : (T.length : Int) ≤ (i4 : Int) := by omega
                          go_wp2_with fail
                          refine (FRN.out A10 c10 _ (HS10.out.on (Nat.le_refl _) HBL.out)).mono ?_
                          rintro e w9 ⟨A11, c11, rfl, hb9⟩
                          have HB9 := Lib.hid (HBL.out.trans (Below.mono hb9 HBL.out.size))
                          clear hb9
                          go_wp2_with fail
                          refine (Al.awake_any _).mono ?_
                          rintro e w10 ⟨rfl, hb10⟩
                          have HB10 := Lib.hid (HB9.out.trans (Below.mono hb10 HB9.out.size))
                          clear hb10
                          go_wp2_with fail
                          go_ret
                          exact ⟨rfl, (HB3.out.trans (Below.mono HB7.out hz3)).trans (Below.mono HB10.out (Nat.le_trans hz3 HB7.out.size))⟩
                  · have hpn := HTBN.out (HTB.out.trans (decide_eq_false hkF))
                    rcases hp7 with ⟨_, rfl, _⟩ | ⟨T, N2, A9, c9, A10, c10, hn, _⟩
                    · clear hpn HPA
                      go_wp2_with fail
                      refine (Al.awake_any _).mono ?_
                      rintro e w10 ⟨rfl, hb10⟩
                      have HB10 := Lib.hid (HB7.out.trans (Below.mono hb10 HB7.out.size))
                      clear hb10
                      go_wp2_with fail
                      go_ret
                      exact ⟨rfl, HB3.out.trans (Below.mono HB10.out hz3)⟩
                    · rw [hpn] at hn
                      cases hn
                · have hx1I : (i3 : Int) < (gs.length : Int) := by omega
                  have hx2I : (H.length : Int) ≤ 0 := by omega
                  clear hlt3
                  obtain ⟨A4, c4, rfl, hc4, _, hs4⟩ := Mine.form (.inr HOG3.out)
                  have HS4 := Lib.hid hs4
                  have FRM := Lib.hid (CFR.out M HM.out _ 128 _ (HSB.out.on (Nat.le_refl _) HB3R.out))
                  have hGG : ∀ g ∈ G, 74 ≤ g ∧ g < 160 ∧ g < 1024 ∧ bitN M g.toNat = true := fun g hg => by
                    obtain ⟨a, b, c⟩ := HH.out g (HGH.out g hg)
                    exact ⟨a, b, by omega, c⟩
                  have HPA := Lib.hid (plan_all HM.out 160 kk G HGN.out hGG)
                  have HPN := Lib.hid (planN (L := M) HM.out.symm (by decide))
                  obtain ⟨F, hF⟩ : ∃ F, F = (frees M 160 (top 160)).length := ⟨_, rfl⟩
                  have hFk : F ≤ 1024 := by rw [hF]; exact Nat.le_trans (frees_len _ _ _) (top_le _)
                  have htb : takeB M 160 kk = decide (kk ≤ (F : Int)) := by rw [hF]; unfold takeB; simp [p0]
                  rw [← hF] at FRM HPA
                  have hTBN : takeB M 160 kk = false → planM M 160 kk G = none := fun h => by unfold planM; rw [if_neg (by rw [h]; simp)]
                  have HTBN := Lib.hid hTBN
                  have HTB := Lib.hid htb
                  clear hs4 hGG hF htb hTBN
                  go_wp2_with fail
                  refine FRM.out.mono ?_
                  rintro e w5 ⟨A5, c5, rfl, hb5⟩
                  have HB5 := Lib.hid (HB3R.out.trans (Below.mono hb5 hb3s))
                  have HS45 := Lib.hid (HS4.out.on (Nat.le_refl _) hb5)
                  clear hb5
                  go_wp2_with fail
                  refine (PN.out _).mono ?_
                  rintro e w' ⟨rfl, rfl⟩
                  go_wp2_with fail
                  refine (bytesN (L := M) HM.out.symm (by decide) _ 128 _ (HSB.out.on (Nat.le_refl _) HB5.out) (Nat.le_refl _)).mono ?_
                  rintro e w6 ⟨A6, c6, rfl, hs6, hc6, hb6⟩
                  have HS6 := Lib.hid hs6
                  have HS46 := Lib.hid (HS45.out.on (Nat.le_refl _) hb6)
                  have HB6 := Lib.hid (HB5.out.trans (Below.mono hb6 HB5.out.size))
                  clear hs6 hb6
                  go_wp2_with fail
                  refine (HPN.out A6 c6 160 kk A4 G c4 w6 HS6.out hc6 HS46.out (by omega)).mono ?_
                  rintro e w7 hp7
                  have hb7 : Below w6.heap.size w6 w7 := by rcases hp7 with ⟨_, _, h⟩ | ⟨_, _, _, _, _, _, _, _, _, _, _, _, h⟩ <;> exact h
                  have HB7 := Lib.hid (HB6.out.trans (Below.mono hb7 HB6.out.size))
                  clear hb7
                  by_cases hkF : kk ≤ (F : Int)
                  · obtain ⟨N, hPE, hN128, hTk, hFN, hTX⟩ := HPA.out (HTB.out.trans (decide_eq_true hkF))
                    rcases hp7 with ⟨hn, _⟩ | ⟨T, N2, A9, c9, A10, c10, hn, rfl, hs9, hc9, hs10, hm10, _⟩
                    · rw [hPE] at hn
                      cases hn
                    · rw [hPE] at hn
                      injection hn with hn
                      injection hn with e1 e2
                      subst e2
                      have HS9 := Lib.hid hs9
                      have HS10 := Lib.hid hs10
                      rw [e1] at hTk hTX
                      have HTX := Lib.hid hTX
                      have hTe : ((T.length : Int) == kk) = true := by simp [hTk]
                      have hT60 : T.length ≤ 60 := by omega
                      have FRN := Lib.hid (CFR.out N hN128)
                      have HMPN := Lib.hid (fun A w hs => rmap_yes A N hN128 c10 w hs)
                      obtain ⟨FN, hFNe⟩ : ∃ FN, FN = (frees N 160 (top 160)).length := ⟨_, rfl⟩
                      rw [← hFNe] at hFN FRN
                      have hFe : ((FN : Int) == (F : Int) - kk + (G.length : Int)) = true := by simp [hFN]
                      have hFN2 : FN ≤ 1024 := by rw [hFNe]; exact Nat.le_trans (frees_len _ _ _) (top_le _)
                      clear hPE hTX hs9 hs10 hTk hFN hFNe e1 HPA HTBN HPN
                      go_wp2_with fail
                      go_loopw [22] (fun iv wr => ∃ i : Nat, i ≤ T.length ∧ iv = .int .i64 (i : Int) ∧ Below w7.heap.size w7 wr) (fun i _ => T.length - (intOf i).toNat)
                      case atStart => exact ⟨0, by omega, rfl, Below.refl _ _⟩
                      case round =>
                        obtain ⟨i4, hi4, rfl, hbel4⟩ := hrel
                        have HBL := Lib.hid hbel4
                        clear hbel4
                        by_cases hlt4 : i4 < T.length
                        · have hlt4I : (i4 : Int) < (T.length : Int) := by omega
                          have hi40 : (0 : Int) ≤ (i4 : Int) := by omega
                          obtain ⟨x, hx⟩ : ∃ x, T[i4]? = some x := ⟨_, List.getElem?_eq_getElem hlt4⟩
                          obtain ⟨x0, x1, x2, x3⟩ := HTX.out i4 x hx
                          obtain ⟨xn, rfl⟩ := Int.eq_ofNat_of_zero_le x0
                          rw [Int.toNat_natCast] at x2 x3
                          obtain ⟨b9, o9, rfl, hbb9, hcell9⟩ := (HS9.out.on (Nat.le_refl _) HBL.out).at (by omega) (by decide)
                          have hck9 := hcell9 i4 (.int .i64 (xn : Int)) (by rw [List.getElem?_map, hx]; rfl)
                          have hxn : xn < 1024 := by omega
                          obtain ⟨bm, om, hem, hbbm, hcellm⟩ := (HSM.out.on (Nat.le_refl _) (HB7.out.trans (Below.mono HBL.out HB7.out.size))).at (by decide) (by decide)
                          injection hem with hem
                          injection hem with em1 em2
                          subst em1; subst em2
                          have hckm := hcellm xn (.bool false) (by rw [List.getElem?_map]; unfold mapF; rw [List.getElem?_map, List.getElem?_range hxn, ← x2]; rfl)
                          rw [Nat.zero_add] at hckm
                          have HMN : Hid (∀ w', Below wr.heap.size wr w' → Sl w' w'.heap.size 1 A10 128 (N.map bv)) := Lib.hid fun w' hk => (HS10.out.on (Nat.le_refl _) HBL.out).on (Nat.le_refl _) hk
                          have HX3 := Lib.hid x3
                          clear hx hcell9 hcellm x2 x3
                          go_wp2_with fail
                          refine wp_region_rely (by kernel_rfl) (fun d u w' => match d with
                            | 139 => u = (.slice (some ⟨gm, 0, none⟩) 1024 1024 : Value)
                            | 140 => u = (.slice (some ⟨b9, o9, none⟩) T.length c9 : Value)
                            | 141 => u = (.int .i64 (i4 : Int) : Value)
                            | 142 => u = (.pointer (some ⟨b9, o9 + i4, none⟩) : Value)
                            | 143 => u = (.int .i64 (xn : Int) : Value)
                            | 144 => u = (.pointer (some ⟨gm, xn, none⟩) : Value)
                            | 145 => u = (.bool false : Value)
                            | 146 => u = (.bool false : Value)
                            | 147 => u = (.slice A10 128 c10 : Value)
                            | 148 => ∃ gN, u = .slice (some ⟨gN, 0, none⟩) 1024 1024 ∧ gN < w'.heap.size ∧ w'.cell? ⟨gN, xn, none⟩ = some (.bool true)
                            | 149 => u = (.slice (some ⟨b9, o9, none⟩) T.length c9 : Value)
                            | 150 => u = (.int .i64 (i4 : Int) : Value)
                            | 151 => u = (.pointer (some ⟨b9, o9 + i4, none⟩) : Value)
                            | 152 => u = (.int .i64 (xn : Int) : Value)
                            | 153 => ∃ gN, u = .pointer (some ⟨gN, xn, none⟩) ∧ gN < w'.heap.size ∧ w'.cell? ⟨gN, xn, none⟩ = some (.bool true)
                            | 154 => u = (.bool true : Value)
                            | 155 => u = (.bool false : Value)
                            | 156 => u = (.bool false : Value)
                            | _ => True) 176 rfl (by decide +kernel) [156] ?_ ?_
                          · refine AllSteps.cons (Step.move _ rfl rfl fun a w' hl => hl.old 7 rfl) ?_
                            refine AllSteps.cons (Step.move _ rfl rfl fun a w' hl => hl.old 19 rfl) ?_
                            refine AllSteps.cons (Step.move _ rfl rfl fun a w' hl => hl.old 22 rfl) ?_
                            refine AllSteps.cons (Step.plain rfl fun a w' K hl hK => ?_) ?_
                            · obtain ⟨_, _, _, h140⟩ := hl.dep 1 140 rfl rfl
                              replace h140 : a.eval (.tmp 140) = _ := h140
                              obtain ⟨_, _, _, h141⟩ := hl.dep 2 141 rfl rfl
                              replace h141 : a.eval (.tmp 141) = _ := h141
                              refine wp_val (.pointer (some ⟨b9, o9 + i4, none⟩)) ?_ (hK _ _ (Kept.refl _) rfl)
                              clear hl hK
                              generalize a.eval = ρ at *
                              simp [execOp, go_sem, h140, h141]
                              try (intro h; omega)
                            refine AllSteps.cons (Step.plain rfl fun a w' K hl hK => ?_) ?_
                            · obtain ⟨_, _, _, h142⟩ := hl.dep 3 142 rfl rfl
                              replace h142 : a.eval (.tmp 142) = _ := h142
                              have hcell := (Below.cell hl.kept (p := ⟨b9, o9 + i4, none⟩) hbb9).trans hck9
                              refine wp_val (.int .i64 (xn : Int)) ?_ (hK _ _ (Kept.refl _) rfl)
                              clear hl hK
                              generalize a.eval = ρ at *
                              simp [execOp, go_sem, h142, hcell]
                            refine AllSteps.cons (Step.plain rfl fun a w' K hl hK => ?_) ?_
                            · obtain ⟨_, _, _, h139⟩ := hl.dep 0 139 rfl rfl
                              replace h139 : a.eval (.tmp 139) = _ := h139
                              obtain ⟨_, _, _, h143⟩ := hl.dep 4 143 rfl rfl
                              replace h143 : a.eval (.tmp 143) = _ := h143
                              refine wp_val (.pointer (some ⟨gm, xn, none⟩)) ?_ (hK _ _ (Kept.refl _) rfl)
                              clear hl hK
                              generalize a.eval = ρ at *
                              simp [execOp, go_sem, h139, h143]
                              try (intro h; omega)
                            refine AllSteps.cons (Step.plain rfl fun a w' K hl hK => ?_) ?_
                            · obtain ⟨_, _, _, h144⟩ := hl.dep 5 144 rfl rfl
                              replace h144 : a.eval (.tmp 144) = _ := h144
                              have hcell := (Below.cell hl.kept (p := ⟨gm, xn, none⟩) hbbm).trans hckm
                              refine wp_val (.bool false) ?_ (hK _ _ (Kept.refl _) rfl)
                              clear hl hK
                              generalize a.eval = ρ at *
                              simp [execOp, go_sem, h144, hcell]
                            refine AllSteps.cons (Step.move _ rfl rfl fun a w' hl => let ⟨_, _, _, h⟩ := hl.dep 6 145 rfl rfl; h) ?_
                            refine AllSteps.cons (Step.yes 7 false 146 rfl rfl rfl (fun _ _ h => h) fun a w' K hl hK => ?_) ?_
                            · have h20 : a.eval (.tmp 20) = (.slice A10 128 c10 : Value) := hl.old 20 rfl
                              exact wp_val (a.eval (.tmp 20)) rfl (hK _ _ (Kept.refl _) h20)
                            refine AllSteps.cons (Step.yes 7 false 146 rfl rfl rfl (fun _ _ h => h) fun a w' K hl hK => ?_) ?_
                            · obtain ⟨_, _, _, h147⟩ := hl.dep 8 147 rfl rfl
                              replace h147 : a.eval (.tmp 147) = _ := h147
                              refine wp_call rfl Try.func19 rfl rfl #[.slice A10 128 c10] (by simp [h147]) ?_
                              refine (HMPN.out A10 w' (HMN.out w' hl.kept)).mono ?_
                              rintro e w8 ⟨gN, rfl, ho8, hb8⟩
                              have hc8 := (ownB_there ho8 xn hxn).1
                              rw [mapF_at _ hxn, HX3.out] at hc8
                              exact ⟨_, rfl, hK _ _ hb8 ⟨gN, rfl, (own_lt ho8 gN rfl).2, hc8⟩⟩
                            refine AllSteps.cons (Step.yes 7 false 146 rfl rfl rfl (fun _ _ h => h) fun a w' K hl hK => ?_) ?_
                            · have h19 : a.eval (.tmp 19) = (.slice (some ⟨b9, o9, none⟩) T.length c9 : Value) := hl.old 19 rfl
                              exact wp_val (a.eval (.tmp 19)) rfl (hK _ _ (Kept.refl _) h19)
                            refine AllSteps.cons (Step.yes 7 false 146 rfl rfl rfl (fun _ _ h => h) fun a w' K hl hK => ?_) ?_
                            · have h22 : a.eval (.tmp 22) = (.int .i64 (i4 : Int) : Value) := hl.old 22 rfl
                              exact wp_val (a.eval (.tmp 22)) rfl (hK _ _ (Kept.refl _) h22)
                            refine AllSteps.cons (Step.yes 7 false 146 rfl rfl rfl (fun _ _ h => h) fun a w' K hl hK => ?_) ?_
                            · obtain ⟨_, _, _, h149⟩ := hl.dep 10 149 rfl rfl
                              replace h149 : a.eval (.tmp 149) = _ := h149
                              obtain ⟨_, _, _, h150⟩ := hl.dep 11 150 rfl rfl
                              replace h150 : a.eval (.tmp 150) = _ := h150
                              refine wp_val (.pointer (some ⟨b9, o9 + i4, none⟩)) ?_ (hK _ _ (Kept.refl _) rfl)
                              clear hl hK
                              generalize a.eval = ρ at *
                              simp [execOp, go_sem, h149, h150]
                              try (intro h; omega)
                            refine AllSteps.cons (Step.yes 7 false 146 rfl rfl rfl (fun _ _ h => h) fun a w' K hl hK => ?_) ?_
                            · obtain ⟨_, _, _, h151⟩ := hl.dep 12 151 rfl rfl
                              replace h151 : a.eval (.tmp 151) = _ := h151
                              have hcell := (Below.cell hl.kept (p := ⟨b9, o9 + i4, none⟩) hbb9).trans hck9
                              refine wp_val (.int .i64 (xn : Int)) ?_ (hK _ _ (Kept.refl _) rfl)
                              clear hl hK
                              generalize a.eval = ρ at *
                              simp [execOp, go_sem, h151, hcell]
                            refine AllSteps.cons (Step.yes 7 false 146 rfl rfl rfl (fun _ _ h => h) fun a w' K hl hK => ?_) ?_
                            · obtain ⟨_, w1, hk1, gN, h148, hgN, hcN⟩ := hl.dep 9 148 rfl rfl
                              obtain ⟨_, _, _, h152⟩ := hl.dep 13 152 rfl rfl
                              replace h152 : a.eval (.tmp 152) = _ := h152
                              refine wp_val (.pointer (some ⟨gN, xn, none⟩)) ?_ (hK _ _ (Kept.refl _) ⟨gN, rfl, Nat.lt_of_lt_of_le hgN hk1.size, (Below.cell hk1 (p := ⟨gN, xn, none⟩) hgN).trans hcN⟩)
                              clear hl hK
                              generalize a.eval = ρ at *
                              simp [execOp, go_sem, h148, h152]
                              try (intro h; omega)
                            refine AllSteps.cons (Step.yes 7 false 146 rfl rfl rfl (fun _ _ h => h) fun a w' K hl hK => ?_) ?_
                            · obtain ⟨_, w1, hk1, gN, h153, hgN, hcN⟩ := hl.dep 14 153 rfl rfl
                              refine wp_val (.bool true) ?_ (hK _ _ (Kept.refl _) rfl)
                              have hcell := (Below.cell hk1 (p := ⟨gN, xn, none⟩) hgN).trans hcN
                              clear hl hK
                              generalize a.eval = ρ at *
                              simp [execOp, go_sem, h153, hcell]
                            refine AllSteps.cons (Step.yes 7 false 146 rfl rfl rfl (fun _ _ h => h) fun a w' K hl hK => ?_) ?_
                            · obtain ⟨_, _, _, h154⟩ := hl.dep 15 154 rfl rfl
                              replace h154 : a.eval (.tmp 154) = _ := h154
                              refine wp_val (.bool false) ?_ (hK _ _ (Kept.refl _) rfl)
                              clear hl hK
                              generalize a.eval = ρ at *
                              simp [execOp, go_sem, h154]
                            refine AllSteps.cons (Step.plain rfl fun a w' K hl hK => ?_) ?_
                            · obtain ⟨_, _, _, h146⟩ := hl.dep 7 146 rfl rfl
                              replace h146 : a.eval (.tmp 146) = _ := h146
                              obtain ⟨_, _, _, h155⟩ := hl.dep 16 155 rfl rfl
                              replace h155 : a.eval (.tmp 155) = _ := h155
                              exact wp_pick rfl false h146 (hK _ _ (Kept.refl _) h155)
                            exact AllSteps.nil
                          · intro f w9 hk9 hf
                            obtain ⟨_, _, h156⟩ := hf 156 rfl rfl
                            replace h156 : f 156 = .bool false := h156
                            simp only [Exit.then, fill, dsts, List.filterMap_cons, List.filterMap_nil, List.foldl_cons, List.foldl_nil, Act.put, h156, List.setIfInBounds_toArray, List.set_cons_succ, List.set_cons_zero]
                            clear hf
                            have HB9 := Lib.hid (HBL.out.trans (Below.mono hk9 HBL.out.size))
                            clear hk9
                            go_wp2_with fail
                            go_roundw
                            case rel => exact ⟨i4 + 1, by omega, by go_num, HB9.out⟩
                            case measure => simp [intOf]; omega
                        · have hge4 : (T.length : Int) ≤ (i4 : Int) := by omega
                          go_wp2_with fail
                          refine (FRN.out A10 c10 _ (HS10.out.on (Nat.le_refl _) HBL.out)).mono ?_
                          rintro e w9 ⟨A11, c11, rfl, hb9⟩
                          have HB9 := Lib.hid (HBL.out.trans (Below.mono hb9 HBL.out.size))
                          clear hb9
                          go_wp2_with fail
                          refine (Al.awake_any _).mono ?_
                          rintro e w10 ⟨rfl, hb10⟩
                          have HB10 := Lib.hid (HB9.out.trans (Below.mono hb10 HB9.out.size))
                          clear hb10
                          go_wp2_with fail
                          go_ret
                          exact ⟨rfl, (HB3.out.trans (Below.mono HB7.out hz3)).trans (Below.mono HB10.out (Nat.le_trans hz3 HB7.out.size))⟩
                  · have hpn := HTBN.out (HTB.out.trans (decide_eq_false hkF))
                    rcases hp7 with ⟨_, rfl, _⟩ | ⟨T, N2, A9, c9, A10, c10, hn, _⟩
                    · clear hpn HPA
                      go_wp2_with fail
                      refine (Al.awake_any _).mono ?_
                      rintro e w10 ⟨rfl, hb10⟩
                      have HB10 := Lib.hid (HB7.out.trans (Below.mono hb10 HB7.out.size))
                      clear hb10
                      go_wp2_with fail
                      go_ret
                      exact ⟨rfl, HB3.out.trans (Below.mono HB10.out hz3)⟩
                    · rw [hpn] at hn
                      cases hn
                · have hx1I : (i3 : Int) < (gs.length : Int) := by omega
                  have hx2I : (0 : Int) < (H.length : Int) := by omega
                  have hx3I : (30 : Int) ≤ (i3 : Int) := by omega
                  clear hlt3
                  obtain ⟨A4, c4, rfl, hc4, _, hs4⟩ := Mine.form (.inr HOG3.out)
                  have HS4 := Lib.hid hs4
                  have FRM := Lib.hid (CFR.out M HM.out _ 128 _ (HSB.out.on (Nat.le_refl _) HB3R.out))
                  have hGG : ∀ g ∈ G, 74 ≤ g ∧ g < 160 ∧ g < 1024 ∧ bitN M g.toNat = true := fun g hg => by
                    obtain ⟨a, b, c⟩ := HH.out g (HGH.out g hg)
                    exact ⟨a, b, by omega, c⟩
                  have HPA := Lib.hid (plan_all HM.out 160 kk G HGN.out hGG)
                  have HPN := Lib.hid (planN (L := M) HM.out.symm (by decide))
                  obtain ⟨F, hF⟩ : ∃ F, F = (frees M 160 (top 160)).length := ⟨_, rfl⟩
                  have hFk : F ≤ 1024 := by rw [hF]; exact Nat.le_trans (frees_len _ _ _) (top_le _)
                  have htb : takeB M 160 kk = decide (kk ≤ (F : Int)) := by rw [hF]; unfold takeB; simp [p0]
                  rw [← hF] at FRM HPA
                  have hTBN : takeB M 160 kk = false → planM M 160 kk G = none := fun h => by unfold planM; rw [if_neg (by rw [h]; simp)]
                  have HTBN := Lib.hid hTBN
                  have HTB := Lib.hid htb
                  clear hs4 hGG hF htb hTBN
                  go_wp2_with fail
                  refine FRM.out.mono ?_
                  rintro e w5 ⟨A5, c5, rfl, hb5⟩
                  have HB5 := Lib.hid (HB3R.out.trans (Below.mono hb5 hb3s))
                  have HS45 := Lib.hid (HS4.out.on (Nat.le_refl _) hb5)
                  clear hb5
                  go_wp2_with fail
                  refine (PN.out _).mono ?_
                  rintro e w' ⟨rfl, rfl⟩
                  go_wp2_with fail
                  refine (bytesN (L := M) HM.out.symm (by decide) _ 128 _ (HSB.out.on (Nat.le_refl _) HB5.out) (Nat.le_refl _)).mono ?_
                  rintro e w6 ⟨A6, c6, rfl, hs6, hc6, hb6⟩
                  have HS6 := Lib.hid hs6
                  have HS46 := Lib.hid (HS45.out.on (Nat.le_refl _) hb6)
                  have HB6 := Lib.hid (HB5.out.trans (Below.mono hb6 HB5.out.size))
                  clear hs6 hb6
                  go_wp2_with fail
                  refine (HPN.out A6 c6 160 kk A4 G c4 w6 HS6.out hc6 HS46.out (by omega)).mono ?_
                  rintro e w7 hp7
                  have hb7 : Below w6.heap.size w6 w7 := by rcases hp7 with ⟨_, _, h⟩ | ⟨_, _, _, _, _, _, _, _, _, _, _, _, h⟩ <;> exact h
                  have HB7 := Lib.hid (HB6.out.trans (Below.mono hb7 HB6.out.size))
                  clear hb7
                  by_cases hkF : kk ≤ (F : Int)
                  · obtain ⟨N, hPE, hN128, hTk, hFN, hTX⟩ := HPA.out (HTB.out.trans (decide_eq_true hkF))
                    rcases hp7 with ⟨hn, _⟩ | ⟨T, N2, A9, c9, A10, c10, hn, rfl, hs9, hc9, hs10, hm10, _⟩
                    · rw [hPE] at hn
                      cases hn
                    · rw [hPE] at hn
                      injection hn with hn
                      injection hn with e1 e2
                      subst e2
                      have HS9 := Lib.hid hs9
                      have HS10 := Lib.hid hs10
                      rw [e1] at hTk hTX
                      have HTX := Lib.hid hTX
                      have hTe : ((T.length : Int) == kk) = true := by simp [hTk]
                      have hT60 : T.length ≤ 60 := by omega
                      have FRN := Lib.hid (CFR.out N hN128)
                      have HMPN := Lib.hid (fun A w hs => rmap_yes A N hN128 c10 w hs)
                      obtain ⟨FN, hFNe⟩ : ∃ FN, FN = (frees N 160 (top 160)).length := ⟨_, rfl⟩
                      rw [← hFNe] at hFN FRN
                      have hFe : ((FN : Int) == (F : Int) - kk + (G.length : Int)) = true := by simp [hFN]
                      have hFN2 : FN ≤ 1024 := by rw [hFNe]; exact Nat.le_trans (frees_len _ _ _) (top_le _)
                      clear hPE hTX hs9 hs10 hTk hFN hFNe e1 HPA HTBN HPN
                      go_wp2_with fail
                      go_loopw [22] (fun iv wr => ∃ i : Nat, i ≤ T.length ∧ iv = .int .i64 (i : Int) ∧ Below w7.heap.size w7 wr) (fun i _ => T.length - (intOf i).toNat)
                      case atStart => exact ⟨0, by omega, rfl, Below.refl _ _⟩
                      case round =>
                        obtain ⟨i4, hi4, rfl, hbel4⟩ := hrel
                        have HBL := Lib.hid hbel4
                        clear hbel4
                        by_cases hlt4 : i4 < T.length
                        · have hlt4I : (i4 : Int) < (T.length : Int) := by omega
                          have hi40 : (0 : Int) ≤ (i4 : Int) := by omega
                          obtain ⟨x, hx⟩ : ∃ x, T[i4]? = some x := ⟨_, List.getElem?_eq_getElem hlt4⟩
                          obtain ⟨x0, x1, x2, x3⟩ := HTX.out i4 x hx
                          obtain ⟨xn, rfl⟩ := Int.eq_ofNat_of_zero_le x0
                          rw [Int.toNat_natCast] at x2 x3
                          obtain ⟨b9, o9, rfl, hbb9, hcell9⟩ := (HS9.out.on (Nat.le_refl _) HBL.out).at (by omega) (by decide)
                          have hck9 := hcell9 i4 (.int .i64 (xn : Int)) (by rw [List.getElem?_map, hx]; rfl)
                          have hxn : xn < 1024 := by omega
                          obtain ⟨bm, om, hem, hbbm, hcellm⟩ := (HSM.out.on (Nat.le_refl _) (HB7.out.trans (Below.mono HBL.out HB7.out.size))).at (by decide) (by decide)
                          injection hem with hem
                          injection hem with em1 em2
                          subst em1; subst em2
                          have hckm := hcellm xn (.bool false) (by rw [List.getElem?_map]; unfold mapF; rw [List.getElem?_map, List.getElem?_range hxn, ← x2]; rfl)
                          rw [Nat.zero_add] at hckm
                          have HMN : Hid (∀ w', Below wr.heap.size wr w' → Sl w' w'.heap.size 1 A10 128 (N.map bv)) := Lib.hid fun w' hk => (HS10.out.on (Nat.le_refl _) HBL.out).on (Nat.le_refl _) hk
                          have HX3 := Lib.hid x3
                          clear hx hcell9 hcellm x2 x3
                          go_wp2_with fail
                          refine wp_region_rely (by kernel_rfl) (fun d u w' => match d with
                            | 139 => u = (.slice (some ⟨gm, 0, none⟩) 1024 1024 : Value)
                            | 140 => u = (.slice (some ⟨b9, o9, none⟩) T.length c9 : Value)
                            | 141 => u = (.int .i64 (i4 : Int) : Value)
                            | 142 => u = (.pointer (some ⟨b9, o9 + i4, none⟩) : Value)
                            | 143 => u = (.int .i64 (xn : Int) : Value)
                            | 144 => u = (.pointer (some ⟨gm, xn, none⟩) : Value)
                            | 145 => u = (.bool false : Value)
                            | 146 => u = (.bool false : Value)
                            | 147 => u = (.slice A10 128 c10 : Value)
                            | 148 => ∃ gN, u = .slice (some ⟨gN, 0, none⟩) 1024 1024 ∧ gN < w'.heap.size ∧ w'.cell? ⟨gN, xn, none⟩ = some (.bool true)
                            | 149 => u = (.slice (some ⟨b9, o9, none⟩) T.length c9 : Value)
                            | 150 => u = (.int .i64 (i4 : Int) : Value)
                            | 151 => u = (.pointer (some ⟨b9, o9 + i4, none⟩) : Value)
                            | 152 => u = (.int .i64 (xn : Int) : Value)
                            | 153 => ∃ gN, u = .pointer (some ⟨gN, xn, none⟩) ∧ gN < w'.heap.size ∧ w'.cell? ⟨gN, xn, none⟩ = some (.bool true)
                            | 154 => u = (.bool true : Value)
                            | 155 => u = (.bool false : Value)
                            | 156 => u = (.bool false : Value)
                            | _ => True) 176 rfl (by decide +kernel) [156] ?_ ?_
                          · refine AllSteps.cons (Step.move _ rfl rfl fun a w' hl => hl.old 7 rfl) ?_
                            refine AllSteps.cons (Step.move _ rfl rfl fun a w' hl => hl.old 19 rfl) ?_
                            refine AllSteps.cons (Step.move _ rfl rfl fun a w' hl => hl.old 22 rfl) ?_
                            refine AllSteps.cons (Step.plain rfl fun a w' K hl hK => ?_) ?_
                            · obtain ⟨_, _, _, h140⟩ := hl.dep 1 140 rfl rfl
                              replace h140 : a.eval (.tmp 140) = _ := h140
                              obtain ⟨_, _, _, h141⟩ := hl.dep 2 141 rfl rfl
                              replace h141 : a.eval (.tmp 141) = _ := h141
                              refine wp_val (.pointer (some ⟨b9, o9 + i4, none⟩)) ?_ (hK _ _ (Kept.refl _) rfl)
                              clear hl hK
                              generalize a.eval = ρ at *
                              simp [execOp, go_sem, h140, h141]
                              try (intro h; omega)
                            refine AllSteps.cons (Step.plain rfl fun a w' K hl hK => ?_) ?_
                            · obtain ⟨_, _, _, h142⟩ := hl.dep 3 142 rfl rfl
                              replace h142 : a.eval (.tmp 142) = _ := h142
                              have hcell := (Below.cell hl.kept (p := ⟨b9, o9 + i4, none⟩) hbb9).trans hck9
                              refine wp_val (.int .i64 (xn : Int)) ?_ (hK _ _ (Kept.refl _) rfl)
                              clear hl hK
                              generalize a.eval = ρ at *
                              simp [execOp, go_sem, h142, hcell]
                            refine AllSteps.cons (Step.plain rfl fun a w' K hl hK => ?_) ?_
                            · obtain ⟨_, _, _, h139⟩ := hl.dep 0 139 rfl rfl
                              replace h139 : a.eval (.tmp 139) = _ := h139
                              obtain ⟨_, _, _, h143⟩ := hl.dep 4 143 rfl rfl
                              replace h143 : a.eval (.tmp 143) = _ := h143
                              refine wp_val (.pointer (some ⟨gm, xn, none⟩)) ?_ (hK _ _ (Kept.refl _) rfl)
                              clear hl hK
                              generalize a.eval = ρ at *
                              simp [execOp, go_sem, h139, h143]
                              try (intro h; omega)
                            refine AllSteps.cons (Step.plain rfl fun a w' K hl hK => ?_) ?_
                            · obtain ⟨_, _, _, h144⟩ := hl.dep 5 144 rfl rfl
                              replace h144 : a.eval (.tmp 144) = _ := h144
                              have hcell := (Below.cell hl.kept (p := ⟨gm, xn, none⟩) hbbm).trans hckm
                              refine wp_val (.bool false) ?_ (hK _ _ (Kept.refl _) rfl)
                              clear hl hK
                              generalize a.eval = ρ at *
                              simp [execOp, go_sem, h144, hcell]
                            refine AllSteps.cons (Step.move _ rfl rfl fun a w' hl => let ⟨_, _, _, h⟩ := hl.dep 6 145 rfl rfl; h) ?_
                            refine AllSteps.cons (Step.yes 7 false 146 rfl rfl rfl (fun _ _ h => h) fun a w' K hl hK => ?_) ?_
                            · have h20 : a.eval (.tmp 20) = (.slice A10 128 c10 : Value) := hl.old 20 rfl
                              exact wp_val (a.eval (.tmp 20)) rfl (hK _ _ (Kept.refl _) h20)
                            refine AllSteps.cons (Step.yes 7 false 146 rfl rfl rfl (fun _ _ h => h) fun a w' K hl hK => ?_) ?_
                            · obtain ⟨_, _, _, h147⟩ := hl.dep 8 147 rfl rfl
                              replace h147 : a.eval (.tmp 147) = _ := h147
                              refine wp_call rfl Try.func19 rfl rfl #[.slice A10 128 c10] (by simp [h147]) ?_
                              refine (HMPN.out A10 w' (HMN.out w' hl.kept)).mono ?_
                              rintro e w8 ⟨gN, rfl, ho8, hb8⟩
                              have hc8 := (ownB_there ho8 xn hxn).1
                              rw [mapF_at _ hxn, HX3.out] at hc8
                              exact ⟨_, rfl, hK _ _ hb8 ⟨gN, rfl, (own_lt ho8 gN rfl).2, hc8⟩⟩
                            refine AllSteps.cons (Step.yes 7 false 146 rfl rfl rfl (fun _ _ h => h) fun a w' K hl hK => ?_) ?_
                            · have h19 : a.eval (.tmp 19) = (.slice (some ⟨b9, o9, none⟩) T.length c9 : Value) := hl.old 19 rfl
                              exact wp_val (a.eval (.tmp 19)) rfl (hK _ _ (Kept.refl _) h19)
                            refine AllSteps.cons (Step.yes 7 false 146 rfl rfl rfl (fun _ _ h => h) fun a w' K hl hK => ?_) ?_
                            · have h22 : a.eval (.tmp 22) = (.int .i64 (i4 : Int) : Value) := hl.old 22 rfl
                              exact wp_val (a.eval (.tmp 22)) rfl (hK _ _ (Kept.refl _) h22)
                            refine AllSteps.cons (Step.yes 7 false 146 rfl rfl rfl (fun _ _ h => h) fun a w' K hl hK => ?_) ?_
                            · obtain ⟨_, _, _, h149⟩ := hl.dep 10 149 rfl rfl
                              replace h149 : a.eval (.tmp 149) = _ := h149
                              obtain ⟨_, _, _, h150⟩ := hl.dep 11 150 rfl rfl
                              replace h150 : a.eval (.tmp 150) = _ := h150
                              refine wp_val (.pointer (some ⟨b9, o9 + i4, none⟩)) ?_ (hK _ _ (Kept.refl _) rfl)
                              clear hl hK
                              generalize a.eval = ρ at *
                              simp [execOp, go_sem, h149, h150]
                              try (intro h; omega)
                            refine AllSteps.cons (Step.yes 7 false 146 rfl rfl rfl (fun _ _ h => h) fun a w' K hl hK => ?_) ?_
                            · obtain ⟨_, _, _, h151⟩ := hl.dep 12 151 rfl rfl
                              replace h151 : a.eval (.tmp 151) = _ := h151
                              have hcell := (Below.cell hl.kept (p := ⟨b9, o9 + i4, none⟩) hbb9).trans hck9
                              refine wp_val (.int .i64 (xn : Int)) ?_ (hK _ _ (Kept.refl _) rfl)
                              clear hl hK
                              generalize a.eval = ρ at *
                              simp [execOp, go_sem, h151, hcell]
                            refine AllSteps.cons (Step.yes 7 false 146 rfl rfl rfl (fun _ _ h => h) fun a w' K hl hK => ?_) ?_
                            · obtain ⟨_, w1, hk1, gN, h148, hgN, hcN⟩ := hl.dep 9 148 rfl rfl
                              obtain ⟨_, _, _, h152⟩ := hl.dep 13 152 rfl rfl
                              replace h152 : a.eval (.tmp 152) = _ := h152
                              refine wp_val (.pointer (some ⟨gN, xn, none⟩)) ?_ (hK _ _ (Kept.refl _) ⟨gN, rfl, Nat.lt_of_lt_of_le hgN hk1.size, (Below.cell hk1 (p := ⟨gN, xn, none⟩) hgN).trans hcN⟩)
                              clear hl hK
                              generalize a.eval = ρ at *
                              simp [execOp, go_sem, h148, h152]
                              try (intro h; omega)
                            refine AllSteps.cons (Step.yes 7 false 146 rfl rfl rfl (fun _ _ h => h) fun a w' K hl hK => ?_) ?_
                            · obtain ⟨_, w1, hk1, gN, h153, hgN, hcN⟩ := hl.dep 14 153 rfl rfl
                              refine wp_val (.bool true) ?_ (hK _ _ (Kept.refl _) rfl)
                              have hcell := (Below.cell hk1 (p := ⟨gN, xn, none⟩) hgN).trans hcN
                              clear hl hK
                              generalize a.eval = ρ at *
                              simp [execOp, go_sem, h153, hcell]
                            refine AllSteps.cons (Step.yes 7 false 146 rfl rfl rfl (fun _ _ h => h) fun a w' K hl hK => ?_) ?_
                            · obtain ⟨_, _, _, h154⟩ := hl.dep 15 154 rfl rfl
                              replace h154 : a.eval (.tmp 154) = _ := h154
                              refine wp_val (.bool false) ?_ (hK _ _ (Kept.refl _) rfl)
                              clear hl hK
                              generalize a.eval = ρ at *
                              simp [execOp, go_sem, h154]
                            refine AllSteps.cons (Step.plain rfl fun a w' K hl hK => ?_) ?_
                            · obtain ⟨_, _, _, h146⟩ := hl.dep 7 146 rfl rfl
                              replace h146 : a.eval (.tmp 146) = _ := h146
                              obtain ⟨_, _, _, h155⟩ := hl.dep 16 155 rfl rfl
                              replace h155 : a.eval (.tmp 155) = _ := h155
                              exact wp_pick rfl false h146 (hK _ _ (Kept.refl _) h155)
                            exact AllSteps.nil
                          · intro f w9 hk9 hf
                            obtain ⟨_, _, h156⟩ := hf 156 rfl rfl
                            replace h156 : f 156 = .bool false := h156
                            simp only [Exit.then, fill, dsts, List.filterMap_cons, List.filterMap_nil, List.foldl_cons, List.foldl_nil, Act.put, h156, List.setIfInBounds_toArray, List.set_cons_succ, List.set_cons_zero]
                            clear hf
                            have HB9 := Lib.hid (HBL.out.trans (Below.mono hk9 HBL.out.size))
                            clear hk9
                            go_wp2_with fail
                            go_roundw
                            case rel => exact ⟨i4 + 1, by omega, by go_num, HB9.out⟩
                            case measure => simp [intOf]; omega
                        · have hge4 : (T.length : Int) ≤ (i4 : Int) := by omega
                          go_wp2_with fail
                          refine (FRN.out A10 c10 _ (HS10.out.on (Nat.le_refl _) HBL.out)).mono ?_
                          rintro e w9 ⟨A11, c11, rfl, hb9⟩
                          have HB9 := Lib.hid (HBL.out.trans (Below.mono hb9 HBL.out.size))
                          clear hb9
                          go_wp2_with fail
                          refine (Al.awake_any _).mono ?_
                          rintro e w10 ⟨rfl, hb10⟩
                          have HB10 := Lib.hid (HB9.out.trans (Below.mono hb10 HB9.out.size))
                          clear hb10
                          go_wp2_with fail
                          go_ret
                          exact ⟨rfl, (HB3.out.trans (Below.mono HB7.out hz3)).trans (Below.mono HB10.out (Nat.le_trans hz3 HB7.out.size))⟩
                  · have hpn := HTBN.out (HTB.out.trans (decide_eq_false hkF))
                    rcases hp7 with ⟨_, rfl, _⟩ | ⟨T, N2, A9, c9, A10, c10, hn, _⟩
                    · clear hpn HPA
                      go_wp2_with fail
                      refine (Al.awake_any _).mono ?_
                      rintro e w10 ⟨rfl, hb10⟩
                      have HB10 := Lib.hid (HB7.out.trans (Below.mono hb10 HB7.out.size))
                      clear hb10
                      go_wp2_with fail
                      go_ret
                      exact ⟨rfl, HB3.out.trans (Below.mono HB10.out hz3)⟩
                    · rw [hpn] at hn
                      cases hn
end Go.Proofs.Ytgfhepfikphliaa.Pn
