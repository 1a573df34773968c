/-
  The document's list in order.
-/
import Derived.Test.YtipdaecihfkonaaAll2
namespace Go.Proofs.Ytipdaecihfkonaa.Bt
open Fl Go.RowKit Ga Wd Sp By
set_option linter.unusedVariables false

def NormR (w : World) (m : Ps) (e : Ending) (w' : World) : Prop := ∃ A c, e = .returned (.slice A m.length c) ∧ Sl w' w'.heap.size 2 A m.length (pcs m) ∧ Below w.heap.size w w'
theorem PRow.grown {w w' : World} {b : Nat} {p1 p2 : Int} {row : Option Nat} (h : PRow w b p1 p2) (hg : w.grownBy w' row) (hlt : b < w.heap.size) (hne : row ≠ some b) : PRow w' b p1 p2 :=
  h.of_block (hg.block b hlt (fun e => hne e.symm))
/-- what the inner loop carries along -/
structure N5 (w0 w : World) (b5 B5 : Nat) (Am : Option Addr) (m : Ps) (x1 x2 : Int) : Prop where
  r : PRow w b5 x1 x2
  s : Sl w b5 2 Am m.length (pcs m)
  k : Below w0.heap.size w0 w
  o0 : w0.heap.size ≤ b5
  o1 : b5 < B5
  o2 : B5 ≤ w.heap.size
theorem N5.below {w0 w w' : World} {b5 B5 B : Nat} {Am : Option Addr} {m : Ps} {x1 x2 : Int} (h : N5 w0 w b5 B5 Am m x1 x2) (hb : Below B w w') (hB : B5 ≤ B) : N5 w0 w' b5 B5 Am m x1 x2 := by
  have := h.o0; have := h.o1; have := h.o2
  exact ⟨h.r.below hb (by omega), h.s.below (hb.mono (by omega)), h.k.trans (hb.mono (by omega)), h.o0, h.o1, Nat.le_trans h.o2 hb.size⟩
theorem N5.on5 {w0 w w' : World} {b5 B5 : Nat} {Am : Option Addr} {m : Ps} {x1 x2 y1 y2 : Int} (h : N5 w0 w b5 B5 Am m x1 x2) (hr : PRow w' b5 y1 y2) (ho : Only b5 w w') : N5 w0 w' b5 B5 Am m y1 y2 := by
  have := h.o0; have := h.o1
  exact ⟨hr, h.s.below (ho.low b5 (Nat.le_refl _)), ho.below h.k (by omega), h.o0, h.o1, Nat.le_trans h.o2 ho.size⟩
theorem stN_low {x1 x2 y1 y2 : Int} (n : Ps) (d : Bool) (h : y2 < x1) : stN ((x1, x2), n, d) (y1, y2) = ((x1, x2), n ++ [(y1, y2)], d) := by
  unfold stN
  rw [if_pos h]
theorem stN_high {x1 x2 y1 y2 : Int} (n : Ps) (h : ¬ y2 < x1) (h2 : x2 < y1) : stN ((x1, x2), n, true) (y1, y2) = ((x1, x2), n ++ [(y1, y2)], true) ∧ stN ((x1, x2), n, false) (y1, y2) = ((x1, x2), n ++ [(x1, x2)] ++ [(y1, y2)], true) := by
  unfold stN
  rw [if_neg h, if_pos h2, if_neg h, if_pos h2]
  exact ⟨rfl, rfl⟩
theorem stN_meet {x1 x2 y1 y2 : Int} (n : Ps) (d : Bool) (h : ¬ y2 < x1) (h2 : ¬ x2 < y1) : stN ((x1, x2), n, d) (y1, y2) = ((min x1 y1, max x2 y2), n, d) := by
  unfold stN
  rw [if_neg h, if_neg h2]

set_option maxRecDepth 20000 in
set_option maxHeartbeats 3200000 in
theorem rnorm_any (A : Option Addr) (l : Ps) (c : Nat) (w : World) (hs : Sl w w.heap.size 2 A l.length (pcs l)) (hl : ∀ p ∈ l, Bd p) (hk : l.length ≤ 1100) :
    Calls Try.prog 32 #[.slice A l.length c] w (NormR w (nmR l l.length)) := by
  obtain ⟨i0, hi0, hz0, hz1, hz2⟩ := info_parts infoS
  have HS := Lib.hid hs
  have HL := Lib.hid hl
  have HBD := Lib.hid (nmR_bd l hl)
  have HLEN := Lib.hid (nmR_len l)
  clear hs hl
  go_enter Try.func32, Try.ntmps32
  go_wp2_with fail
  go_loopw [4, 3] (fun iv mv wr => ∃ i : Nat, i ≤ l.length ∧ iv = .int .i64 (i : Int) ∧ wr.ownsRow w.heap.size 58 2 mv (nmR l i).length (pcs (nmR l i)) ∧ Below w.heap.size w wr) (fun iv _ _ => l.length - (intOf iv).toNat)
  case atStart => exact ⟨0, by omega, rfl, World.ownsRow_nil _ _ _ _, Below.refl _ _⟩
  case round =>
    obtain ⟨i, hi, rfl, hown, hbel⟩ := hrel
    have HB := Lib.hid hbel
    have hmlen := HLEN.out i
    by_cases hlt : i < l.length
    · have hltI : (i : Int) < (l.length : Int) := by omega
      have hi0n : (0 : Int) ≤ (i : Int) := by omega
      obtain ⟨⟨x1, x2⟩, hx⟩ : ∃ x, l[i]? = some x := ⟨_, List.getElem?_eq_getElem hlt⟩
      have HNX := Lib.hid (nmR_succ hx)
      have hxb := HL.out _ (List.mem_of_getElem? hx)
      have hmb := HBD.out i
      obtain ⟨m, hm⟩ : ∃ m, m = nmR l i := ⟨_, rfl⟩
      rw [← hm] at hown HNX hmb hmlen
      obtain ⟨Am, cm, rfl, hmc, hcm, hsm⟩ := Mine.form (.inr hown)
      have HIN := Lib.hid (inN_bd (x1, x2) m hxb hmb)
      have HIL := Lib.hid (inN_len (x1, x2) m)
      have HMB := Lib.hid hmb
      have HMQ := Lib.hid hm
      obtain ⟨b, off, rfl, hbb, hcc⟩ := HS.out.at (by omega) (by decide)
      have hr0 := (pair_range HS.out hx).1
      have HR : Hid (wr.rangeAt b (off + i * 2) [.int .i64 x1, .int .i64 x2]) := Lib.hid fun j v hj => (Below.cell HB.out (p := ⟨b, off + i * 2 + j, none⟩) hbb).trans (hr0 j v hj)
      have HSM := Lib.hid hsm
      clear hx hxb hmb hm hown hsm hcc hr0 hmc
      go_wp2_with (first
        | ((with_reducible show wpList _ _ _ (⟨some 19, _, _, _, _, _⟩ :: _) _ _); refine wpList_load_range rfl _ rfl rfl HR.out ?_)
        | ((with_reducible show wpList _ _ _ (⟨some 5, _, _, _, _, _⟩ :: _) _ _); refine wpList_alloc_pair rfl rfl ?_; intro w5 hr5 hb5 hlt5)
        | ((with_reducible show wpList _ _ _ (⟨none, Op.store 58 (.tmp 5) _, _, _, _, _⟩ :: _) _ _); refine wpList_store_pair rfl _ _ rfl x1 x2 hr5 rfl rfl ?_; intro w6 hr6 ho6))
      obtain ⟨b5, hb5e⟩ : ∃ b5, b5 = wr.heap.size := ⟨_, rfl⟩
      obtain ⟨B5, hB5e⟩ : ∃ B5, B5 = w5.heap.size := ⟨_, rfl⟩
      have HN : Hid (N5 w w6 b5 B5 Am m x1 x2) := Lib.hid (by
        rw [hb5e, hB5e]
        exact ⟨hr6, (HSM.out.below hb5).below (ho6.low _ (Nat.le_refl _)), ho6.below (HB.out.trans (hb5.mono HB.out.size)) HB.out.size, HB.out.size, hlt5, ho6.size⟩)
      rw [← hb5e]
      clear hr5 hb5 hlt5 hr6 ho6 hb5e hB5e HSM HR hbel HB hbb
      go_loopw [8, 6, 7] (fun kv nv dv wr => ∃ (k : Nat) (x1' x2' : Int) (n : Ps) (d : Bool), k ≤ m.length ∧ kv = .int .i64 (k : Int) ∧ dv = .bool d ∧ inN (x1, x2) m k = ((x1', x2'), n, d) ∧ wr.ownsRow B5 58 2 nv n.length (pcs n) ∧ N5 w wr b5 B5 Am m x1' x2') (fun kv _ _ _ => m.length - (intOf kv).toNat)
      case atStart => exact ⟨0, x1, x2, [], false, by omega, rfl, rfl, rfl, World.ownsRow_nil _ _ _ _, HN.out⟩
      case round =>
        obtain ⟨k, x1', x2', n, d, hk2, rfl, rfl, hin, hown, hn5⟩ := hrel
        have HQ := Lib.hid hin
        have HON := Lib.hid hown
        replace HN := Lib.hid hn5
        have hnl := HIL.out k
        rw [HQ.out] at hnl
        have hnl2 : n.length ≤ k + 1 := by cases d <;> simp at hnl <;> omega
        have hB9 := hn5.o2
        clear hin hown hn5 hnl
        by_cases hlk : k < m.length
        · have hlkI : (k : Int) < (m.length : Int) := by omega
          have hk0 : (0 : Int) ≤ (k : Int) := by omega
          obtain ⟨⟨y1, y2⟩, hy⟩ : ∃ y, m[k]? = some y := ⟨_, List.getElem?_eq_getElem hlk⟩
          have HNXT := Lib.hid (inN_succ (x1, x2) hy)
          rw [HQ.out] at HNXT
          obtain ⟨bm, om, rfl, hbm, hcm2⟩ := HN.out.s.at (by omega) (by decide)
          have HRM := Lib.hid (pair_range HN.out.s hy).1
          have hbz := HN.out.o1
          have HNE : Hid (u6.ownBlock ≠ some wr.heap.size) := Lib.hid fun e => by
            have := (own_lt HON.out _ e).2
            omega
          clear hy hcm2
          by_cases c1 : y2 < x1'
          · have hS := HNXT.out.trans (stN_low n d c1)
            have HS2 := Lib.hid hS
            clear hS
            go_wp2_with (first
              | ((with_reducible show wpList _ _ _ (⟨some 29, _, _, _, _, _⟩ :: _) _ _); refine wpList_load_range rfl _ rfl rfl HRM.out ?_)
              | ((with_reducible show wpList _ _ _ (⟨some 9, _, _, _, _, _⟩ :: _) _ _); refine wpList_alloc_pair rfl rfl ?_; intro w7 hr7 hb7 hlt7)
              | ((with_reducible show wpList _ _ _ (⟨none, Op.store 58 (.tmp 9) _, _, _, _, _⟩ :: _) _ _); refine wpList_store_pair rfl _ _ rfl y1 y2 hr7 rfl rfl ?_; intro w8 hr8 ho8; have k8 := ho8.below hb7 (Nat.le_refl _); replace HON := Lib.hid (own_bel HON.out k8); replace HN := Lib.hid (HN.out.below k8 hB9); have hB8 := HN.out.o2; have hlt8 := Nat.lt_of_lt_of_le hlt7 ho8.size; clear hr7 hb7 hlt7 ho8 k8)
              | ((with_reducible show wpList _ _ _ (⟨some 43, _, _, _, _, _⟩ :: _) _ _); refine wpList_load_pnum rfl _ _ rfl Try.underlying3 hr8.c1 rfl ?_)
              | ((with_reducible show wpList _ _ _ (⟨some 45, _, _, _, _, _⟩ :: _) _ _); refine wpList_load_pnum rfl _ _ rfl Try.underlying3 HN.out.r.c0 rfl ?_)
              | ((with_reducible show wpList _ _ _ (⟨some 53, _, _, _, _, _⟩ :: _) _ _); refine wpList_load_pnum rfl _ _ rfl Try.underlying3 HN.out.r.c1 rfl ?_)
              | ((with_reducible show wpList _ _ _ (⟨some 55, _, _, _, _, _⟩ :: _) _ _); refine wpList_load_pnum rfl _ _ rfl Try.underlying3 hr8.c0 rfl ?_)
              | ((with_reducible show wpList _ _ _ (⟨some 48, _, _, _, _, _⟩ :: _) _ _); refine wpList_load_range rfl _ rfl rfl hr8.range ?_)
              | (at_builtin; ((with_reducible show wpList _ _ _ (⟨some 50, _, _, _, _, _⟩ :: _) _ _); refine wpList_append_mine rfl (.tmp 47) (.tmp 49) _ _ rfl B5 58 i0 (.agg #[.int .i64 0, .int .i64 0]) 2 16 hz1 hz2 rfl (by decide) _ _ _ rfl (Mine.alloc (.inr HON.out) _) _ 1 (pcs [(y1, y2)]) rfl (Gives.pair Try.underlying56 hi0 hz0 hz1 y1 y2) (by simp only [maxLen]; omega) (by omega) (by simp; omega) ?_; intro A20 c20 w20 hm20 hg20 hb20 hat20 hown20; have ho20 := hown20 (.inl (by decide)); rw [← pcs_append] at ho20; have HO20 := Lib.hid ho20; have k20 := ((Below.refl _ _).alloc hB8 (.cells #[.int .i64 y1, .int .i64 y2] 58)).trans hb20; replace HN := Lib.hid (HN.out.below (k20) (Nat.le_refl _)); have hB20 := HN.out.o2; clear ho20 hm20 hg20 hb20 hat20 hown20)))
            go_roundw
            case measure => simp [intOf]; omega
            case rel => exact ⟨k + 1, x1', x2', n ++ [(y1, y2)], d, by omega, by go_num, rfl, HS2.out, by rw [List.length_append]; exact HO20.out, HN.out⟩
          · have c1n : x1' ≤ y2 := by omega
            by_cases c2 : x2' < y1
            · cases d
              · have HS2 := Lib.hid (HNXT.out.trans (stN_high n c1 c2).2)
                go_wp2_with (first
                  | ((with_reducible show wpList _ _ _ (⟨some 29, _, _, _, _, _⟩ :: _) _ _); refine wpList_load_range rfl _ rfl rfl HRM.out ?_)
                  | ((with_reducible show wpList _ _ _ (⟨some 9, _, _, _, _, _⟩ :: _) _ _); refine wpList_alloc_pair rfl rfl ?_; intro w7 hr7 hb7 hlt7)
                  | ((with_reducible show wpList _ _ _ (⟨none, Op.store 58 (.tmp 9) _, _, _, _, _⟩ :: _) _ _); refine wpList_store_pair rfl _ _ rfl y1 y2 hr7 rfl rfl ?_; intro w8 hr8 ho8; have k8 := ho8.below hb7 (Nat.le_refl _); replace HON := Lib.hid (own_bel HON.out k8); replace HN := Lib.hid (HN.out.below k8 hB9); have hB8 := HN.out.o2; have hlt8 := Nat.lt_of_lt_of_le hlt7 ho8.size; clear hr7 hb7 hlt7 ho8 k8)
                  | ((with_reducible show wpList _ _ _ (⟨some 43, _, _, _, _, _⟩ :: _) _ _); refine wpList_load_pnum rfl _ _ rfl Try.underlying3 hr8.c1 rfl ?_)
                  | ((with_reducible show wpList _ _ _ (⟨some 45, _, _, _, _, _⟩ :: _) _ _); refine wpList_load_pnum rfl _ _ rfl Try.underlying3 HN.out.r.c0 rfl ?_)
                  | ((with_reducible show wpList _ _ _ (⟨some 53, _, _, _, _, _⟩ :: _) _ _); refine wpList_load_pnum rfl _ _ rfl Try.underlying3 HN.out.r.c1 rfl ?_)
                  | ((with_reducible show wpList _ _ _ (⟨some 55, _, _, _, _, _⟩ :: _) _ _); refine wpList_load_pnum rfl _ _ rfl Try.underlying3 hr8.c0 rfl ?_)
                  | ((with_reducible show wpList _ _ _ (⟨some 60, _, _, _, _, _⟩ :: _) _ _); refine wpList_load_range rfl _ rfl rfl HN.out.r.range ?_)
                  | (at_builtin; ((with_reducible show wpList _ _ _ (⟨some 62, _, _, _, _, _⟩ :: _) _ _); refine wpList_append_mine rfl (.tmp 59) (.tmp 61) _ _ rfl B5 58 i0 (.agg #[.int .i64 0, .int .i64 0]) 2 16 hz1 hz2 rfl (by decide) _ _ _ rfl (Mine.alloc (.inr HON.out) _) _ 1 (pcs [(x1', x2')]) rfl (Gives.pair Try.underlying56 hi0 hz0 hz1 x1' x2') (by simp only [maxLen]; omega) (by omega) (by simp; omega) ?_; intro A20 c20 w20 hm20 hg20 hb20 hat20 hown20; have ho20 := hown20 (.inl (by decide)); rw [← pcs_append] at ho20; have HO20 := Lib.hid ho20; have k20 := ((Below.refl _ _).alloc hB8 (.cells #[.int .i64 x1', .int .i64 x2'] 58)).trans hb20; have hr9 := (hr8.below ((Below.refl _ _).alloc (Nat.le_refl _) _) hlt8).grown hg20 (by simp; omega) HNE.out; replace HN := Lib.hid (HN.out.below k20 (Nat.le_refl _)); have hB20 := HN.out.o2; clear ho20 hm20 hg20 hb20 hat20 hown20))
                  | ((with_reducible show wpList _ _ _ (⟨some 64, _, _, _, _, _⟩ :: _) _ _); refine wpList_load_range rfl _ rfl rfl hr9.range ?_)
                  | (at_builtin; ((with_reducible show wpList _ _ _ (⟨some 66, _, _, _, _, _⟩ :: _) _ _); refine wpList_append_mine rfl (.tmp 63) (.tmp 65) _ _ rfl B5 58 i0 (.agg #[.int .i64 0, .int .i64 0]) 2 16 hz1 hz2 rfl (by decide) _ _ _ rfl (Mine.alloc (.inr HO20.out) _) _ 1 (pcs [(y1, y2)]) rfl (Gives.pair Try.underlying56 hi0 hz0 hz1 y1 y2) (by simp only [maxLen]; omega) (by omega) (by simp; omega) ?_; intro A21 c21 w21 hm21 hg21 hb21 hat21 hown21; have ho21 := hown21 (.inl (by decide)); rw [← pcs_append] at ho21; have HO21 := Lib.hid ho21; have k21 := ((Below.refl _ _).alloc hB20 (.cells #[.int .i64 y1, .int .i64 y2] 58)).trans hb21; replace HN := Lib.hid (HN.out.below (k21) (Nat.le_refl _)); have hB21 := HN.out.o2; clear ho21 hm21 hg21 hb21 hat21 hown21)))
                go_roundw
                case measure => simp [intOf]; omega
                case rel => exact ⟨k + 1, x1', x2', n ++ [(x1', x2')] ++ [(y1, y2)], true, by omega, by go_num, rfl, HS2.out, by rw [List.length_append, List.length_append]; exact HO21.out, HN.out⟩
              · have HS2 := Lib.hid (HNXT.out.trans (stN_high n c1 c2).1)
                go_wp2_with (first
                  | ((with_reducible show wpList _ _ _ (⟨some 29, _, _, _, _, _⟩ :: _) _ _); refine wpList_load_range rfl _ rfl rfl HRM.out ?_)
                  | ((with_reducible show wpList _ _ _ (⟨some 9, _, _, _, _, _⟩ :: _) _ _); refine wpList_alloc_pair rfl rfl ?_; intro w7 hr7 hb7 hlt7)
                  | ((with_reducible show wpList _ _ _ (⟨none, Op.store 58 (.tmp 9) _, _, _, _, _⟩ :: _) _ _); refine wpList_store_pair rfl _ _ rfl y1 y2 hr7 rfl rfl ?_; intro w8 hr8 ho8; have k8 := ho8.below hb7 (Nat.le_refl _); replace HON := Lib.hid (own_bel HON.out k8); replace HN := Lib.hid (HN.out.below k8 hB9); have hB8 := HN.out.o2; have hlt8 := Nat.lt_of_lt_of_le hlt7 ho8.size; clear hr7 hb7 hlt7 ho8 k8)
                  | ((with_reducible show wpList _ _ _ (⟨some 43, _, _, _, _, _⟩ :: _) _ _); refine wpList_load_pnum rfl _ _ rfl Try.underlying3 hr8.c1 rfl ?_)
                  | ((with_reducible show wpList _ _ _ (⟨some 45, _, _, _, _, _⟩ :: _) _ _); refine wpList_load_pnum rfl _ _ rfl Try.underlying3 HN.out.r.c0 rfl ?_)
                  | ((with_reducible show wpList _ _ _ (⟨some 53, _, _, _, _, _⟩ :: _) _ _); refine wpList_load_pnum rfl _ _ rfl Try.underlying3 HN.out.r.c1 rfl ?_)
                  | ((with_reducible show wpList _ _ _ (⟨some 55, _, _, _, _, _⟩ :: _) _ _); refine wpList_load_pnum rfl _ _ rfl Try.underlying3 hr8.c0 rfl ?_)
                  | ((with_reducible show wpList _ _ _ (⟨some 64, _, _, _, _, _⟩ :: _) _ _); refine wpList_load_range rfl _ rfl rfl hr8.range ?_)
                  | (at_builtin; ((with_reducible show wpList _ _ _ (⟨some 66, _, _, _, _, _⟩ :: _) _ _); refine wpList_append_mine rfl (.tmp 63) (.tmp 65) _ _ rfl B5 58 i0 (.agg #[.int .i64 0, .int .i64 0]) 2 16 hz1 hz2 rfl (by decide) _ _ _ rfl (Mine.alloc (.inr HON.out) _) _ 1 (pcs [(y1, y2)]) rfl (Gives.pair Try.underlying56 hi0 hz0 hz1 y1 y2) (by simp only [maxLen]; omega) (by omega) (by simp; omega) ?_; intro A20 c20 w20 hm20 hg20 hb20 hat20 hown20; have ho20 := hown20 (.inl (by decide)); rw [← pcs_append] at ho20; have HO20 := Lib.hid ho20; have k20 := ((Below.refl _ _).alloc hB8 (.cells #[.int .i64 y1, .int .i64 y2] 58)).trans hb20; replace HN := Lib.hid (HN.out.below (k20) (Nat.le_refl _)); have hB20 := HN.out.o2; clear ho20 hm20 hg20 hb20 hat20 hown20)))
                go_roundw
                case measure => simp [intOf]; omega
                case rel => exact ⟨k + 1, x1', x2', n ++ [(y1, y2)], true, by omega, by go_num, rfl, HS2.out, by rw [List.length_append]; exact HO20.out, HN.out⟩
            · have c2n : y1 ≤ x2' := by omega
              have HS2 := Lib.hid (HNXT.out.trans (stN_meet n d c1 c2))
              have hc : (x1' ≤ y1 ∨ y1 < x1') ∧ (y2 ≤ x2' ∨ x2' < y2) := by omega
              obtain ⟨h1 | h1, h2 | h2⟩ := hc
              · go_wp2_with (first
                  | ((with_reducible show wpList _ _ _ (⟨some 29, _, _, _, _, _⟩ :: _) _ _); refine wpList_load_range rfl _ rfl rfl HRM.out ?_)
                  | ((with_reducible show wpList _ _ _ (⟨some 9, _, _, _, _, _⟩ :: _) _ _); refine wpList_alloc_pair rfl rfl ?_; intro w7 hr7 hb7 hlt7)
                  | ((with_reducible show wpList _ _ _ (⟨none, Op.store 58 (.tmp 9) _, _, _, _, _⟩ :: _) _ _); refine wpList_store_pair rfl _ _ rfl y1 y2 hr7 rfl rfl ?_; intro w8 hr8 ho8; have k8 := ho8.below hb7 (Nat.le_refl _); replace HON := Lib.hid (own_bel HON.out k8); replace HN := Lib.hid (HN.out.below k8 hB9); have hB8 := HN.out.o2; have hlt8 := Nat.lt_of_lt_of_le hlt7 ho8.size; clear hr7 hb7 hlt7 ho8 k8)
                  | ((with_reducible show wpList _ _ _ (⟨some 43, _, _, _, _, _⟩ :: _) _ _); refine wpList_load_pnum rfl _ _ rfl Try.underlying3 hr8.c1 rfl ?_)
                  | ((with_reducible show wpList _ _ _ (⟨some 45, _, _, _, _, _⟩ :: _) _ _); refine wpList_load_pnum rfl _ _ rfl Try.underlying3 HN.out.r.c0 rfl ?_)
                  | ((with_reducible show wpList _ _ _ (⟨some 53, _, _, _, _, _⟩ :: _) _ _); refine wpList_load_pnum rfl _ _ rfl Try.underlying3 HN.out.r.c1 rfl ?_)
                  | ((with_reducible show wpList _ _ _ (⟨some 55, _, _, _, _, _⟩ :: _) _ _); refine wpList_load_pnum rfl _ _ rfl Try.underlying3 hr8.c0 rfl ?_)
                  | ((with_reducible show wpList _ _ _ (⟨some 31, _, _, _, _, _⟩ :: _) _ _); refine wpList_load_pnum rfl _ _ rfl Try.underlying3 HN.out.r.c0 rfl ?_)
                  | ((with_reducible show wpList _ _ _ (⟨some 33, _, _, _, _, _⟩ :: _) _ _); refine wpList_load_pnum rfl _ _ rfl Try.underlying3 hr8.c0 rfl ?_)
                  | ((with_reducible show wpList _ _ _ (⟨some 36, _, _, _, _, _⟩ :: _) _ _); refine wpList_load_pnum rfl _ _ rfl Try.underlying3 HN.out.r.c1 rfl ?_)
                  | ((with_reducible show wpList _ _ _ (⟨some 38, _, _, _, _, _⟩ :: _) _ _); refine wpList_load_pnum rfl _ _ rfl Try.underlying3 hr8.c1 rfl ?_)
                  | ((with_reducible show wpList _ _ _ (⟨none, Op.store 58 (.tmp 5) _, _, _, _, _⟩ :: _) _ _); refine wpList_store_pair rfl _ _ rfl x1' x2' HN.out.r rfl rfl ?_; intro w9 hr9 ho9; replace HON := Lib.hid (own_only HON.out ho9 hbz); replace HN := Lib.hid (HN.out.on5 hr9 ho9); clear hr9 ho9))
                go_roundw
                case measure => simp [intOf]; omega
                case rel => exact ⟨k + 1, min x1' y1, max x2' y2, n, d, by omega, by go_num, rfl, HS2.out, HON.out, ⟨HN.out.r.cast (by omega) (by omega), HN.out.s, HN.out.k, HN.out.o0, HN.out.o1, HN.out.o2⟩⟩
              · go_wp2_with (first
                  | ((with_reducible show wpList _ _ _ (⟨some 29, _, _, _, _, _⟩ :: _) _ _); refine wpList_load_range rfl _ rfl rfl HRM.out ?_)
                  | ((with_reducible show wpList _ _ _ (⟨some 9, _, _, _, _, _⟩ :: _) _ _); refine wpList_alloc_pair rfl rfl ?_; intro w7 hr7 hb7 hlt7)
                  | ((with_reducible show wpList _ _ _ (⟨none, Op.store 58 (.tmp 9) _, _, _, _, _⟩ :: _) _ _); refine wpList_store_pair rfl _ _ rfl y1 y2 hr7 rfl rfl ?_; intro w8 hr8 ho8; have k8 := ho8.below hb7 (Nat.le_refl _); replace HON := Lib.hid (own_bel HON.out k8); replace HN := Lib.hid (HN.out.below k8 hB9); have hB8 := HN.out.o2; have hlt8 := Nat.lt_of_lt_of_le hlt7 ho8.size; clear hr7 hb7 hlt7 ho8 k8)
                  | ((with_reducible show wpList _ _ _ (⟨some 43, _, _, _, _, _⟩ :: _) _ _); refine wpList_load_pnum rfl _ _ rfl Try.underlying3 hr8.c1 rfl ?_)
                  | ((with_reducible show wpList _ _ _ (⟨some 45, _, _, _, _, _⟩ :: _) _ _); refine wpList_load_pnum rfl _ _ rfl Try.underlying3 HN.out.r.c0 rfl ?_)
                  | ((with_reducible show wpList _ _ _ (⟨some 53, _, _, _, _, _⟩ :: _) _ _); refine wpList_load_pnum rfl _ _ rfl Try.underlying3 HN.out.r.c1 rfl ?_)
                  | ((with_reducible show wpList _ _ _ (⟨some 55, _, _, _, _, _⟩ :: _) _ _); refine wpList_load_pnum rfl _ _ rfl Try.underlying3 hr8.c0 rfl ?_)
                  | ((with_reducible show wpList _ _ _ (⟨some 31, _, _, _, _, _⟩ :: _) _ _); refine wpList_load_pnum rfl _ _ rfl Try.underlying3 HN.out.r.c0 rfl ?_)
                  | ((with_reducible show wpList _ _ _ (⟨some 33, _, _, _, _, _⟩ :: _) _ _); refine wpList_load_pnum rfl _ _ rfl Try.underlying3 hr8.c0 rfl ?_)
                  | ((with_reducible show wpList _ _ _ (⟨some 36, _, _, _, _, _⟩ :: _) _ _); refine wpList_load_pnum rfl _ _ rfl Try.underlying3 HN.out.r.c1 rfl ?_)
                  | ((with_reducible show wpList _ _ _ (⟨some 38, _, _, _, _, _⟩ :: _) _ _); refine wpList_load_pnum rfl _ _ rfl Try.underlying3 hr8.c1 rfl ?_)
                  | ((with_reducible show wpList _ _ _ (⟨none, Op.store 58 (.tmp 5) _, _, _, _, _⟩ :: _) _ _); refine wpList_store_pair rfl _ _ rfl x1' y2 HN.out.r rfl rfl ?_; intro w9 hr9 ho9; replace HON := Lib.hid (own_only HON.out ho9 hbz); replace HN := Lib.hid (HN.out.on5 hr9 ho9); clear hr9 ho9))
                go_roundw
                case measure => simp [intOf]; omega
                case rel => exact ⟨k + 1, min x1' y1, max x2' y2, n, d, by omega, by go_num, rfl, HS2.out, HON.out, ⟨HN.out.r.cast (by omega) (by omega), HN.out.s, HN.out.k, HN.out.o0, HN.out.o1, HN.out.o2⟩⟩
              · go_wp2_with (first
                  | ((with_reducible show wpList _ _ _ (⟨some 29, _, _, _, _, _⟩ :: _) _ _); refine wpList_load_range rfl _ rfl rfl HRM.out ?_)
                  | ((with_reducible show wpList _ _ _ (⟨some 9, _, _, _, _, _⟩ :: _) _ _); refine wpList_alloc_pair rfl rfl ?_; intro w7 hr7 hb7 hlt7)
                  | ((with_reducible show wpList _ _ _ (⟨none, Op.store 58 (.tmp 9) _, _, _, _, _⟩ :: _) _ _); refine wpList_store_pair rfl _ _ rfl y1 y2 hr7 rfl rfl ?_; intro w8 hr8 ho8; have k8 := ho8.below hb7 (Nat.le_refl _); replace HON := Lib.hid (own_bel HON.out k8); replace HN := Lib.hid (HN.out.below k8 hB9); have hB8 := HN.out.o2; have hlt8 := Nat.lt_of_lt_of_le hlt7 ho8.size; clear hr7 hb7 hlt7 ho8 k8)
                  | ((with_reducible show wpList _ _ _ (⟨some 43, _, _, _, _, _⟩ :: _) _ _); refine wpList_load_pnum rfl _ _ rfl Try.underlying3 hr8.c1 rfl ?_)
                  | ((with_reducible show wpList _ _ _ (⟨some 45, _, _, _, _, _⟩ :: _) _ _); refine wpList_load_pnum rfl _ _ rfl Try.underlying3 HN.out.r.c0 rfl ?_)
                  | ((with_reducible show wpList _ _ _ (⟨some 53, _, _, _, _, _⟩ :: _) _ _); refine wpList_load_pnum rfl _ _ rfl Try.underlying3 HN.out.r.c1 rfl ?_)
                  | ((with_reducible show wpList _ _ _ (⟨some 55, _, _, _, _, _⟩ :: _) _ _); refine wpList_load_pnum rfl _ _ rfl Try.underlying3 hr8.c0 rfl ?_)
                  | ((with_reducible show wpList _ _ _ (⟨some 31, _, _, _, _, _⟩ :: _) _ _); refine wpList_load_pnum rfl _ _ rfl Try.underlying3 HN.out.r.c0 rfl ?_)
                  | ((with_reducible show wpList _ _ _ (⟨some 33, _, _, _, _, _⟩ :: _) _ _); refine wpList_load_pnum rfl _ _ rfl Try.underlying3 hr8.c0 rfl ?_)
                  | ((with_reducible show wpList _ _ _ (⟨some 36, _, _, _, _, _⟩ :: _) _ _); refine wpList_load_pnum rfl _ _ rfl Try.underlying3 HN.out.r.c1 rfl ?_)
                  | ((with_reducible show wpList _ _ _ (⟨some 38, _, _, _, _, _⟩ :: _) _ _); refine wpList_load_pnum rfl _ _ rfl Try.underlying3 hr8.c1 rfl ?_)
                  | ((with_reducible show wpList _ _ _ (⟨none, Op.store 58 (.tmp 5) _, _, _, _, _⟩ :: _) _ _); refine wpList_store_pair rfl _ _ rfl y1 x2' HN.out.r rfl rfl ?_; intro w9 hr9 ho9; replace HON := Lib.hid (own_only HON.out ho9 hbz); replace HN := Lib.hid (HN.out.on5 hr9 ho9); clear hr9 ho9))
                go_roundw
                case measure => simp [intOf]; omega
                case rel => exact ⟨k + 1, min x1' y1, max x2' y2, n, d, by omega, by go_num, rfl, HS2.out, HON.out, ⟨HN.out.r.cast (by omega) (by omega), HN.out.s, HN.out.k, HN.out.o0, HN.out.o1, HN.out.o2⟩⟩
              · go_wp2_with (first
                  | ((with_reducible show wpList _ _ _ (⟨some 29, _, _, _, _, _⟩ :: _) _ _); refine wpList_load_range rfl _ rfl rfl HRM.out ?_)
                  | ((with_reducible show wpList _ _ _ (⟨some 9, _, _, _, _, _⟩ :: _) _ _); refine wpList_alloc_pair rfl rfl ?_; intro w7 hr7 hb7 hlt7)
                  | ((with_reducible show wpList _ _ _ (⟨none, Op.store 58 (.tmp 9) _, _, _, _, _⟩ :: _) _ _); refine wpList_store_pair rfl _ _ rfl y1 y2 hr7 rfl rfl ?_; intro w8 hr8 ho8; have k8 := ho8.below hb7 (Nat.le_refl _); replace HON := Lib.hid (own_bel HON.out k8); replace HN := Lib.hid (HN.out.below k8 hB9); have hB8 := HN.out.o2; have hlt8 := Nat.lt_of_lt_of_le hlt7 ho8.size; clear hr7 hb7 hlt7 ho8 k8)
                  | ((with_reducible show wpList _ _ _ (⟨some 43, _, _, _, _, _⟩ :: _) _ _); refine wpList_load_pnum rfl _ _ rfl Try.underlying3 hr8.c1 rfl ?_)
                  | ((with_reducible show wpList _ _ _ (⟨some 45, _, _, _, _, _⟩ :: _) _ _); refine wpList_load_pnum rfl _ _ rfl Try.underlying3 HN.out.r.c0 rfl ?_)
                  | ((with_reducible show wpList _ _ _ (⟨some 53, _, _, _, _, _⟩ :: _) _ _); refine wpList_load_pnum rfl _ _ rfl Try.underlying3 HN.out.r.c1 rfl ?_)
                  | ((with_reducible show wpList _ _ _ (⟨some 55, _, _, _, _, _⟩ :: _) _ _); refine wpList_load_pnum rfl _ _ rfl Try.underlying3 hr8.c0 rfl ?_)
                  | ((with_reducible show wpList _ _ _ (⟨some 31, _, _, _, _, _⟩ :: _) _ _); refine wpList_load_pnum rfl _ _ rfl Try.underlying3 HN.out.r.c0 rfl ?_)
                  | ((with_reducible show wpList _ _ _ (⟨some 33, _, _, _, _, _⟩ :: _) _ _); refine wpList_load_pnum rfl _ _ rfl Try.underlying3 hr8.c0 rfl ?_)
                  | ((with_reducible show wpList _ _ _ (⟨some 36, _, _, _, _, _⟩ :: _) _ _); refine wpList_load_pnum rfl _ _ rfl Try.underlying3 HN.out.r.c1 rfl ?_)
                  | ((with_reducible show wpList _ _ _ (⟨some 38, _, _, _, _, _⟩ :: _) _ _); refine wpList_load_pnum rfl _ _ rfl Try.underlying3 hr8.c1 rfl ?_)
                  | ((with_reducible show wpList _ _ _ (⟨none, Op.store 58 (.tmp 5) _, _, _, _, _⟩ :: _) _ _); refine wpList_store_pair rfl _ _ rfl y1 y2 HN.out.r rfl rfl ?_; intro w9 hr9 ho9; replace HON := Lib.hid (own_only HON.out ho9 hbz); replace HN := Lib.hid (HN.out.on5 hr9 ho9); clear hr9 ho9))
                go_roundw
                case measure => simp [intOf]; omega
                case rel => exact ⟨k + 1, min x1' y1, max x2' y2, n, d, by omega, by go_num, rfl, HS2.out, HON.out, ⟨HN.out.r.cast (by omega) (by omega), HN.out.s, HN.out.k, HN.out.o0, HN.out.o1, HN.out.o2⟩⟩
        · have hgek : (m.length : Int) ≤ (k : Int) := by omega
          obtain rfl : k = m.length := by omega
          have HRD : Hid (nmR l (i + 1) = clN ((x1', x2'), n, d)) := Lib.hid (HNX.out.trans (by unfold rdN; rw [HQ.out]))
          have hBw : w.heap.size ≤ B5 := by have := HN.out.o0; have := HN.out.o1; omega
          cases d
          · go_wp2_with (first
              | ((with_reducible show wpList _ _ _ (⟨some 70, _, _, _, _, _⟩ :: _) _ _); refine wpList_load_range rfl _ rfl rfl HN.out.r.range ?_)
              | (at_builtin; ((with_reducible show wpList _ _ _ (⟨some 72, _, _, _, _, _⟩ :: _) _ _); refine wpList_append_mine rfl (.tmp 69) (.tmp 71) _ _ rfl B5 58 i0 (.agg #[.int .i64 0, .int .i64 0]) 2 16 hz1 hz2 rfl (by decide) _ _ _ rfl (Mine.alloc (.inr HON.out) _) _ 1 (pcs [(x1', x2')]) rfl (Gives.pair Try.underlying56 hi0 hz0 hz1 x1' x2') (by simp only [maxLen]; omega) (by omega) (by simp; omega) ?_; intro A22 c22 w22 hm22 hg22 hb22 hat22 hown22; have ho22 := hown22 (.inl (by decide)); rw [← pcs_append] at ho22; have HO22 := Lib.hid ho22; have k22 := ((Below.refl _ _).alloc hB9 (.cells #[.int .i64 x1', .int .i64 x2'] 58)).trans hb22; replace HN := Lib.hid (HN.out.below k22 (Nat.le_refl _)); clear ho22 hm22 hg22 hb22 hat22 hown22)))
            go_roundw
            case measure => simp [intOf]; omega
            case rel => exact ⟨i + 1, by omega, by go_num, by rw [HRD.out]; show World.ownsRow _ _ _ _ _ (n ++ [(x1', x2')]).length (pcs (n ++ [(x1', x2')])); rw [List.length_append]; exact own_lower HO22.out hBw, HN.out.k⟩
          · go_wp2_with fail
            go_roundw
            case measure => simp [intOf]; omega
            case rel => exact ⟨i + 1, by omega, by go_num, by rw [HRD.out]; exact own_lower HON.out hBw, HN.out.k⟩
    · have hge : (l.length : Int) ≤ (i : Int) := by omega
      obtain rfl : i = l.length := by omega
      obtain ⟨Am, cm, rfl, hmc, hcm, hsm⟩ := Mine.form (.inr hown)
      have HSM := Lib.hid hsm
      clear hown hsm hbel
      go_wp2_with fail
      go_ret
      exact ⟨Am, cm, rfl, HSM.out, HB.out⟩
end Go.Proofs.Ytipdaecihfkonaa.Bt

