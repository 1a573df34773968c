/-
  The document's Next: it hands back what alloc.Next does.
-/
import Derived.Test.YtgfhepfikphliaaAlloc3
import Derived.Test.YtgfhepfikphliaaRelyFin
namespace Go.Proofs.Ytgfhepfikphliaa.Al
open Go.RowKit Wd In
set_option linter.unusedVariables false

structure SR0 (w0 w : World) (b4 b5 b8 : Nat) (old now : List Int) : Prop where
  r4 : IRow w b4 old
  r5 : IRow w b5 now
  r8 : IRow w b8 zIno
  bel : Below w0.heap.size w0 w
  o0 : w0.heap.size ≤ b4
  o1 : b4 < b5
  o2 : b5 < b8
  o3 : b8 < w.heap.size
structure SR (w0 w : World) (b4 b5 b8 b11 : Nat) (old now x : List Int) : Prop where
  r4 : IRow w b4 old
  r5 : IRow w b5 now
  r8 : IRow w b8 zIno
  r11 : IRow w b11 x
  bel : Below w0.heap.size w0 w
  o0 : w0.heap.size ≤ b4
  o1 : b4 < b5
  o2 : b5 < b8
  o3 : b8 < b11
  o4 : b11 < w.heap.size
section
variable {w0 w w' : World} {b4 b5 b8 b11 b : Nat} {old now x x' : List Int}
theorem SR0.start {w1 w2 w3 : World} (r1 : IRow w1 w.heap.size old) (k1 : Below w.heap.size w w1) (l1 : w.heap.size < w1.heap.size) (r2 : IRow w2 w1.heap.size now) (k2 : Below w1.heap.size w1 w2) (l2 : w1.heap.size < w2.heap.size)
    (r3 : IRow w3 w2.heap.size zIno) (k3 : Below w2.heap.size w2 w3) (l3 : w2.heap.size < w3.heap.size) : SR0 w w3 w.heap.size w1.heap.size w2.heap.size old now := by
  have k12 := k1.trans (k2.mono (Nat.le_of_lt l1))
  exact ⟨(r1.below k2 l1).below k3 (by omega), r2.below k3 l2, r3, k12.trans (k3.mono (by omega)), Nat.le_refl _, l1, l2, l3⟩
theorem SR0.below (h : SR0 w0 w b4 b5 b8 old now) (hb : Below w.heap.size w w') : SR0 w0 w' b4 b5 b8 old now := by
  have := h.o0; have := h.o1; have := h.o2; have := h.o3
  exact ⟨h.r4.below hb (by omega), h.r5.below hb (by omega), h.r8.below hb (by omega), h.bel.trans (hb.mono (by omega)), h.o0, h.o1, h.o2, Nat.lt_of_lt_of_le h.o3 hb.size⟩
theorem SR0.end8 (h : SR0 w0 w b4 b5 b8 old now) (ho : Only b8 w w') : Below w0.heap.size w0 w' := by
  have := h.o0; have := h.o1; have := h.o2
  exact ho.below h.bel (by omega)
theorem SR.start (h : SR0 w0 w b4 b5 b8 old now) (r : IRow w' w.heap.size x) (hb : Below w.heap.size w w') (hl : w.heap.size < w'.heap.size) : SR w0 w' b4 b5 b8 w.heap.size old now x := by
  have h2 := h.below hb
  exact ⟨h2.r4, h2.r5, h2.r8, r, h2.bel, h.o0, h.o1, h.o2, h.o3, hl⟩
theorem SR.on11 (h : SR w0 w b4 b5 b8 b11 old now x) (hr : IRow w' b11 x') (ho : Only b11 w w') : SR w0 w' b4 b5 b8 b11 old now x' := by
  have := h.o0; have := h.o1; have := h.o2; have := h.o3
  exact ⟨h.r4.only ho (by omega), h.r5.only ho (by omega), h.r8.only ho (by omega), hr, ho.below h.bel (by omega), h.o0, h.o1, h.o2, h.o3, Nat.lt_of_lt_of_le h.o4 ho.size⟩
theorem SR.below {B : Nat} (h : SR w0 w b4 b5 b8 b11 old now x) (hb : Below B w w') (hB : b11 < B) : SR w0 w' b4 b5 b8 b11 old now x := by
  have := h.o0; have := h.o1; have := h.o2; have := h.o3
  exact ⟨h.r4.below hb (by omega), h.r5.below hb (by omega), h.r8.below hb (by omega), h.r11.below hb hB, h.bel.trans (hb.mono (by omega)), h.o0, h.o1, h.o2, h.o3, Nat.lt_of_lt_of_le h.o4 hb.size⟩
theorem SR.drewN (h : SR w0 w b4 b5 b8 b11 old now x) (n : Nat) : SR w0 (w.drewN n) b4 b5 b8 b11 old now x :=
  ⟨h.r4.drewN n, h.r5.drewN n, h.r8.drewN n, h.r11.drewN n, bel_drewN h.bel n, h.o0, h.o1, h.o2, h.o3, h.o4⟩
theorem SR.end8 (h : SR w0 w b4 b5 b8 b11 old now x) (ho : Only b8 w w') : Below w0.heap.size w0 w' := by
  have := h.o0; have := h.o1; have := h.o2
  exact ho.below h.bel (by omega)
end
theorem beq_swap (q p : Int) : (q == p) = (p == q) := by
  by_cases h : q = p
  · rw [h]
  · rw [beq_eq_false_iff_ne.2 h, beq_eq_false_iff_ne.2 (Ne.symm h)]
theorem goP_cap {N M : Int} (h : ∀ k : Int, k < 32 → (N ≤ k ↔ M ≤ k)) : ∀ (last : Int) (ps ts xs : List Int), goP N last ps ts xs = goP M last ps ts xs
  | last, k :: ps, t :: ts, xs => by
    unfold goP
    by_cases h32 : 32 ≤ k
    · rw [if_pos (.inr (.inr h32)), if_pos (.inr (.inr h32))]
    · rw [goP_cap h k ps ts]
      have := h k (by omega)
      by_cases h1 : k ≤ last ∨ N ≤ k ∨ 32 ≤ k
      · rw [if_pos h1, if_pos (by omega)]
      · rw [if_neg h1, if_neg (by omega)]
  | _, [], _, xs => by unfold goP; rfl
  | _, _ :: _, [], xs => by unfold goP; rfl
theorem x1_ext {xs Y : List Int} {k : Nat} (hk : k ≤ 32) (hx : xs.length = 37) (hy : Y.length = 37) (ht : xs.take (5 + k) = Y.take (5 + k)) (hz : ∀ i : Nat, k ≤ i → i < 32 → xs[5 + i]? = some 0) (hY : ∀ i : Nat, k ≤ i → i < 32 → Y[5 + i]? = some 0) : xs = Y := by
  apply List.ext_getElem?
  intro i
  by_cases h1 : i < 5 + k
  · exact at_of_take ht i h1
  · by_cases h2 : i < 37
    · obtain ⟨j, rfl⟩ : ∃ j, i = 5 + j := ⟨i - 5, by omega⟩
      rw [hz j (by omega) (by omega), hY j (by omega) (by omega)]
    · rw [List.getElem?_eq_none (by omega), List.getElem?_eq_none (by omega)]
theorem take5_z (x old now : List Int) (hx : x.take 5 = (hdN now).take 5) (hl : x.length = 37) (hn : now.length = 37) (ys : List Int) : (x.take 5 ++ ys).take 5 = (X1 old now).take 5 := take5_start x old now hx hl hn ys
theorem len5z {x : List Int} (hl : x.length = 37) : (x.take 5 ++ z32).length = 37 := by simp [z32_len, hl]
theorem zero_tailz (x : List Int) (hl : x.length = 37) (i : Nat) (hi : i < 32) : (x.take 5 ++ z32)[5 + i]? = some 0 := by
  rw [List.getElem?_append_right (by rw [List.length_take]; omega), List.length_take, hl, show 5 + i - min 5 37 = i by omega]
  unfold z32
  rw [List.getElem?_replicate, if_pos hi]
theorem zero_zIno (i : Nat) (hi : i < 32) : zIno[5 + i]? = some 0 := by
  unfold zIno
  rw [List.getElem?_replicate, if_pos (by omega)]
theorem X1_take (old now : List Int) (hn : now.length = 37) : (X1 old now).take 5 = (hdN now).take 5 := by
  have e : ((hdN now).take 5).length = 5 := by rw [List.length_take, hdN_len hn]; omega
  unfold X1
  rw [List.take_append_of_le_length (by omega), List.take_take]
  rfl

set_option maxRecDepth 100000 in
set_option maxHeartbeats 800000 in
theorem rnext_bad (old now ps ts : List Int) (Ap At : Option Addr) (cp ct : Nat) (w : World) (hold : old.length = 37) (hnow : now.length = 37) (h : chkL old = false ∨ (chkL old = true ∧ ps.length ≠ ts.length)) :
    Calls Try.prog 11 #[.agg (ints old), .agg (ints now), .slice Ap ps.length cp, .slice At ts.length ct] w (NextR w (nextM old now ps ts)) := by
  have hm : nextM old now ps ts = none := by
    unfold nextM
    rw [if_neg]
    rintro ⟨h1, h2⟩
    rcases h with h | ⟨_, h⟩
    · rw [h1] at h; cases h
    · exact h h2
  have HM := Lib.hid hm
  have HO := Lib.hid hold
  have HN := Lib.hid hnow
  have HCK := Lib.hid (rcheckL hold)
  rcases h with h | ⟨h, hne⟩
  rotate_left 1
  · have hneI : ((ps.length : Int) != (ts.length : Int)) = true := by simp; omega
    rw [h] at HCK
    clear hm hold hnow h hne
    go_enter Try.func11, Try.ntmps11
    go_wp2_with (first
    | ((with_reducible show wpList _ _ _ (⟨some 4, _, _, _, _, _⟩ :: _) _ _); refine wpList_box_ino rfl _ rfl HO.out rfl ?_; intro w1 hr1 hb1 hlt1)
    | ((with_reducible show wpList _ _ _ (⟨some 5, _, _, _, _, _⟩ :: _) _ _); refine wpList_box_ino rfl _ rfl HN.out rfl ?_; intro w2 hr2 hb2 hlt2)
    | ((with_reducible show wpList _ _ _ (⟨some 8, _, _, _, _, _⟩ :: _) _ _); refine wpList_alloc_ino rfl rfl ?_; intro w3 hr3 hb3 hlt3; have HS0 := Lib.hid (SR0.start hr1 hb1 hlt1 hr2 hb2 hlt2 hr3 hb3 hlt3); clear hr1 hb1 hlt1 hr2 hb2 hlt2 hr3 hb3 hlt3)
    | ((with_reducible show wpList _ _ _ (⟨some 20, _, _, _, _, _⟩ :: _) _ _); refine wpList_load_ino rfl _ rfl HS0.out.r4 HO.out rfl ?_)
    | (go_at_call 13; refine (HCK.out _).mono ?_; rintro e w5 ⟨rfl, hb5⟩; replace HS0 := Lib.hid (HS0.out.below hb5); clear hb5)
    | ((with_reducible show wpList _ _ _ (⟨some 30, _, _, _, _, _⟩ :: _) _ _); refine wpList_build_ino rfl rfl ?_)
    | ((with_reducible show wpList _ _ _ (⟨none, Op.store 24 (.tmp 8) _, _, _, _, _⟩ :: _) _ _); refine wpList_store_ino rfl _ _ rfl HS0.out.r8 zIno_len zIno_len rfl rfl ?_; intro w9 hr9 ho9))
    (try simp only [Exit.inBlock, Exit.then])
    refine bodyPost_ret (results_ino3 rfl hr9 zIno_len _ rfl) rfl ?_
    exact nextR_none HM.out (HS0.out.end8 ho9)
  · rw [h] at HCK
    clear hm hold hnow h
    go_enter Try.func11, Try.ntmps11
    go_wp2_with (first
    | ((with_reducible show wpList _ _ _ (⟨some 4, _, _, _, _, _⟩ :: _) _ _); refine wpList_box_ino rfl _ rfl HO.out rfl ?_; intro w1 hr1 hb1 hlt1)
    | ((with_reducible show wpList _ _ _ (⟨some 5, _, _, _, _, _⟩ :: _) _ _); refine wpList_box_ino rfl _ rfl HN.out rfl ?_; intro w2 hr2 hb2 hlt2)
    | ((with_reducible show wpList _ _ _ (⟨some 8, _, _, _, _, _⟩ :: _) _ _); refine wpList_alloc_ino rfl rfl ?_; intro w3 hr3 hb3 hlt3; have HS0 := Lib.hid (SR0.start hr1 hb1 hlt1 hr2 hb2 hlt2 hr3 hb3 hlt3); clear hr1 hb1 hlt1 hr2 hb2 hlt2 hr3 hb3 hlt3)
    | ((with_reducible show wpList _ _ _ (⟨some 20, _, _, _, _, _⟩ :: _) _ _); refine wpList_load_ino rfl _ rfl HS0.out.r4 HO.out rfl ?_)
    | (go_at_call 13; refine (HCK.out _).mono ?_; rintro e w5 ⟨rfl, hb5⟩; replace HS0 := Lib.hid (HS0.out.below hb5); clear hb5)
    | ((with_reducible show wpList _ _ _ (⟨some 30, _, _, _, _, _⟩ :: _) _ _); refine wpList_build_ino rfl rfl ?_)
    | ((with_reducible show wpList _ _ _ (⟨none, Op.store 24 (.tmp 8) _, _, _, _, _⟩ :: _) _ _); refine wpList_store_ino rfl _ _ rfl HS0.out.r8 zIno_len zIno_len rfl rfl ?_; intro w9 hr9 ho9))
    (try simp only [Exit.inBlock, Exit.then])
    refine bodyPost_ret (results_ino3 rfl hr9 zIno_len _ rfl) rfl ?_
    exact nextR_none HM.out (HS0.out.end8 ho9)
end Go.Proofs.Ytgfhepfikphliaa.Al
