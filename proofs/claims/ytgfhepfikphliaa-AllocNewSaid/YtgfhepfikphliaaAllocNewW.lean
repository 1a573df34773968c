/-
  'AllocNew' walked: an inode of another object has nothing of the elder one's; one that is none has nothing at all.
-/
import Derived.Test.YtgfhepfikphliaaAlloc3
namespace Go.Proofs.Ytgfhepfikphliaa.Al
open Go.RowKit Wd In
set_option linter.unusedVariables false

def nz (old : List Int) : List Int := (old.drop 5).filter fun p => !(p == 0)
theorem gone_zeros {old X : List Int} (h : X.drop 5 = z32) : goneL old X = nz old := by
  unfold goneL nz
  unfold z32 at h
  rw [h]
  refine List.filter_congr fun p _ => ?_
  by_cases h0 : p = 0
  · simp [h0]
  · simp [h0]
theorem next_nil (old nw : List Int) (hold : old.length = 37) (hc : chkL old = true) (hk : keeps old nw = false ∨ nw.getD 0 0 = 0) (hl : nw.length = 37) :
    nextM old nw [] [] = if chkL ((hdN nw).take 5 ++ z32) = true then some ((hdN nw).take 5 ++ z32, nz old) else none := by
  have hx : X1 old nw = (hdN nw).take 5 ++ z32 := by
    unfold X1 z32
    congr 1
    apply List.ext_getElem
    · simp
    · intro i h1 h2
      simp only [List.getElem_map, List.getElem_replicate, ptr1]
      rw [if_neg]
      rintro ⟨h3, h4⟩
      rcases hk with hk | hk
      · rw [hk] at h4; cases h4
      · unfold blN at h3
        rw [if_pos hk] at h3
        omega
  unfold nextM
  rw [if_pos ⟨hc, rfl⟩, hx]
  simp only [goP, Option.bind_some]
  split
  · rw [gone_zeros]
    rw [List.drop_append_of_le_length (by rw [List.length_take, hdN_len hl]; omega), List.drop_of_length_le (by rw [List.length_take]; omega), List.nil_append]
  · rfl
theorem next_zero (old : List Int) (hold : old.length = 37) (hc : chkL old = true) : nextM old zIno [] [] = some (zIno, nz old) := by
  rw [next_nil old zIno hold hc (.inr rfl) zIno_len]
  rfl
theorem nz_next {old : List Int} {k : Nat} {q : Int} (hq : (old.drop 5)[k]? = some q) : (((old.drop 5).take (k + 1)).filter fun p => !(p == 0)).length = (((old.drop 5).take k).filter fun p => !(p == 0)).length + (if q = 0 then 0 else 1) := by
  rw [List.take_add_one, hq, List.filter_append, List.length_append]
  congr 1
  by_cases h0 : q = 0
  · simp [h0]
  · simp [h0]

structure S2 (w0 w : World) (b2 b3 : Nat) (old nw : List Int) : Prop where
  r2 : IRow w b2 old
  r3 : IRow w b3 nw
  bel : Below w0.heap.size w0 w
  o0 : w0.heap.size ≤ b2
  o1 : b2 < b3
  o2 : b3 < w.heap.size
section
variable {w0 w w' : World} {b2 b3 b : Nat} {old nw nw' : List Int}
theorem S2.start {w1 w2 : World} (r1 : IRow w1 w.heap.size old) (k1 : Below w.heap.size w w1) (l1 : w.heap.size < w1.heap.size) (r2 : IRow w2 w1.heap.size nw) (k2 : Below w1.heap.size w1 w2) (l2 : w1.heap.size < w2.heap.size) :
    S2 w w2 w.heap.size w1.heap.size old nw := ⟨r1.below k2 l1, r2, k1.trans (k2.mono (Nat.le_of_lt l1)), Nat.le_refl _, l1, l2⟩
theorem S2.on3 (h : S2 w0 w b2 b3 old nw) (hr : IRow w' b3 nw') (ho : Only b3 w w') : S2 w0 w' b2 b3 old nw' :=
  ⟨h.r2.only ho (Nat.ne_of_lt h.o1), hr, ho.below h.bel (Nat.le_trans h.o0 (Nat.le_of_lt h.o1)), h.o0, h.o1, Nat.lt_of_lt_of_le h.o2 ho.size⟩
theorem S2.only (h : S2 w0 w b2 b3 old nw) (ho : Only b w w') (hb : b3 < b) : S2 w0 w' b2 b3 old nw := by
  have := h.o0; have := h.o1
  exact ⟨h.r2.only ho (by omega), h.r3.only ho (by omega), ho.below h.bel (by omega), h.o0, h.o1, Nat.lt_of_lt_of_le h.o2 ho.size⟩
theorem S2.below {B : Nat} (h : S2 w0 w b2 b3 old nw) (hb : Below B w w') (hB : b3 < B) : S2 w0 w' b2 b3 old nw := by
  have := h.o0; have := h.o1
  exact ⟨h.r2.below hb (by omega), h.r3.below hb hB, h.bel.trans (hb.mono (by omega)), h.o0, h.o1, Nat.lt_of_lt_of_le h.o2 hb.size⟩
end
theorem run_eql_ptrs (w : World) (xs ys : List Int) (hx : xs.length = 32) (hy : ys.length = 32) : (binOp .eql 22 (.agg (ints xs)) (.agg (ints ys))).run Try.prog w = .ok (.bool (xs == ys)) w := by
  obtain ⟨i0, hi, hz0, hz1, hz2⟩ := info_parts infoI
  rw [run_eql_struct, run_equalIn_arr w 9998 22 3 32 .i64 i0 Try.underlying22 Try.underlying3 hi hz1 xs ys hx hy]
  rfl
theorem wpList_eql_ptrs {ops : Array Oper} {Q : Exit → Act → World → Prop} {a : Act} {w : World} {rest : List Oper} {o : Oper} {t' : TypeId} {x y : Operand} (hw : Region.wanted o (yielded ops a.tmps) = true)
    (ho : o.op = .binOp .eql 22 x y t') (xs ys : List Int) (hx : a.eval x = .agg (ints xs)) (hy : a.eval y = .agg (ints ys)) (hlx : xs.length = 32) (hly : ys.length = 32)
    (hK : wpList Try.prog ops Q rest (a.put o.dst (.bool (xs == ys))) w) : wpList Try.prog ops Q (o :: rest) a w := by
  refine wpList_val hw (.bool (xs == ys)) w ?_ hK
  have hg : (eqGuard .eql 22 x y (.agg (ints xs)) (.agg (ints ys))).run Try.prog w = .ok () w := run_eqGuard_agg (P := Try.prog) w .eql _ x y _ _ (by kernel_rfl)
  clear hK
  unfold execOp
  generalize a.eval = ρ at *
  simp only [ho, hx, hy, hg, run_eql_ptrs w xs ys hlx hly, Sem.run_bind, Sem.run_pure, Result.andThen_ok]
theorem next_new1 (old : List Int) (hold : old.length = 37) (hc : chkL old = true) (w : World) : Calls Try.prog 9 #[.agg (ints old), .agg (ints zIno), .slice none 0 0, .slice none 0 0] w
    fun e w' => ∃ A c, e = .returned (.tuple #[.agg (ints zIno), .slice A (nz old).length c, .bool true]) ∧ Below w.heap.size w w' := by
  refine (next_any old zIno [] [] none none 0 0 w hold zIno_len (by decide) (Sl.nil _) (Sl.nil _) (by decide)).mono ?_
  intro e w' h
  rw [next_zero old hold hc] at h
  obtain ⟨A, c, h1, h2, h3⟩ := h
  exact ⟨A, c, h1, h3⟩
theorem next_new2 (old nw : List Int) (hold : old.length = 37) (hc : chkL old = true) (hl : nw.length = 37) (hk : keeps old nw = false) (hb : ∀ x ∈ nw, -9223372036854775808 ≤ x ∧ x ≤ 9223372036854775807) (Y : List Int) (hY : Y = (hdN nw).take 5 ++ z32) (w : World) :
    Calls Try.prog 9 #[.agg (ints old), .agg (ints nw), .slice none 0 0, .slice none 0 0] w
    fun e w' => (if chkL Y = true then ∃ A c, e = .returned (.tuple #[.agg (ints Y), .slice A (nz old).length c, .bool true]) else e = .returned (.tuple #[.agg (ints zIno), .slice none 0 0, .bool false])) ∧ Below w.heap.size w w' := by
  subst hY
  refine (next_any old nw [] [] none none 0 0 w hold hl hb (Sl.nil _) (Sl.nil _) (by decide)).mono ?_
  intro e w' h
  rw [next_nil old nw hold hc (.inl hk) hl] at h
  split at h
  · rename_i hy
    rw [if_pos hy]
    obtain ⟨A, c, h1, h2, h3⟩ := h
    exact ⟨⟨A, c, h1⟩, h3⟩
  · rename_i hy
    rw [if_neg hy]
    exact h

set_option maxRecDepth 100000 in
set_option maxHeartbeats 800000 in
theorem new_bad (old now : List Int) (w : World) (hold : old.length = 37) (hnow : now.length = 37) (hc : chkL old = false) :
    Calls Try.prog 5 #[.agg (ints old), .agg (ints now)] w fun e w' => e = .returned (.bool true) ∧ Below w.heap.size w w' := by
  have HO := Lib.hid hold
  have HN := Lib.hid hnow
  have HCK := Lib.hid (rcheckL hold)
  rw [hc] at HCK
  clear hold hnow hc
  go_enter Try.func5, Try.ntmps5
  go_wp2_with (first
    | ((with_reducible show wpList _ _ _ (⟨some 2, _, _, _, _, _⟩ :: _) _ _); refine wpList_box_ino rfl _ rfl HO.out rfl ?_; intro w1 hr1 hb1 hlt1)
    | ((with_reducible show wpList _ _ _ (⟨some 3, _, _, _, _, _⟩ :: _) _ _); refine wpList_box_ino rfl _ rfl HN.out rfl ?_; intro w2 hr2 hb2 hlt2; have HS := Lib.hid (S2.start hr1 hb1 hlt1 hr2 hb2 hlt2); clear hr1 hb1 hlt1 hr2 hb2 hlt2)
    | ((with_reducible show wpList _ _ _ (⟨some 13, _, _, _, _, _⟩ :: _) _ _); refine wpList_load_ino rfl _ rfl HS.out.r2 HO.out rfl ?_)
    | (go_at_call 13; refine (HCK.out _).mono ?_; rintro e w3 ⟨rfl, hb3⟩; replace HS := Lib.hid (HS.out.below hb3 HS.out.o2); clear hb3)
    | (go_at_call 8; refine (awake_any _).mono ?_; rintro e w7 ⟨rfl, hb7⟩))
  go_ret
  exact ⟨rfl, HS.out.bel.trans (hb7.mono HS.out.bel.size)⟩

set_option maxRecDepth 100000 in
set_option maxHeartbeats 1600000 in
theorem new_same (old now : List Int) (w : World) (hold : old.length = 37) (hnow : now.length = 37) (hc : chkL old = true) (hbn : ∀ x ∈ now, -9223372036854775808 ≤ x ∧ x ≤ 9223372036854775807) (q3 n3 : Int) (hq3 : old[3]? = some q3) (hn3 : now[3]? = some n3) (heq : n3 = q3) :
    Calls Try.prog 5 #[.agg (ints old), .agg (ints now)] w fun e w' => e = .returned (.bool true) ∧ Below w.heap.size w w' := by
  obtain ⟨v3, hv⟩ : ∃ v3, v3 = IntKind.i64.wrap (n3 + 1) := ⟨_, rfl⟩
  have hb3 := hbn n3 (List.mem_of_getElem? hn3)
  have hv3 : ¬ q3 = v3 := by rw [hv, ← heq, IntKind.wrap_i64]; omega
  have hvb : -9223372036854775808 ≤ v3 ∧ v3 ≤ 9223372036854775807 := by rw [hv, IntKind.wrap_i64]; omega
  have hvo : IntKind.i64.wrap (n3 + 1) = v3 := hv.symm
  obtain ⟨nw0, hnw0⟩ : ∃ nw0, nw0 = now.set 3 v3 := ⟨_, rfl⟩
  have h03 : nw0[3]? = some v3 := by rw [hnw0, List.getElem?_set_self (by omega)]
  have hb0 : ∀ x ∈ nw0, -9223372036854775808 ≤ x ∧ x ≤ 9223372036854775807 := by
    intro x hx
    rw [hnw0] at hx
    rcases List.mem_or_eq_of_mem_set hx with h | rfl
    · exact hbn x h
    · exact hvb
  have heqb : (n3 == q3) = true := by simp [heq]
  have hl2 : nw0.length = 37 := by rw [hnw0]; rw [List.length_set, hnow]
  have hnl : (nw0.take 5 ++ z32).length = 37 := by simp [hl2, z32_len]
  have hnb : ∀ x ∈ nw0.take 5 ++ z32, -9223372036854775808 ≤ x ∧ x ≤ 9223372036854775807 := by
    intro x hx
    rcases List.mem_append.1 hx with hx | hx
    · exact hb0 x (List.mem_of_mem_take hx)
    · unfold z32 at hx
      rw [List.eq_of_mem_replicate hx]; decide
  have hkp : keeps old (nw0.take 5 ++ z32) = false := by
    have e1 : old.getD 3 0 = q3 := by rw [List.getD_eq_getElem?_getD, hq3]; rfl
    have e2 : (nw0.take 5 ++ z32).getD 3 0 = v3 := by
      rw [List.getD_eq_getElem?_getD, List.getElem?_append_left (by rw [List.length_take]; omega), List.getElem?_take, if_pos (by decide), h03]; rfl
    unfold keeps
    rw [e1, e2, show (q3 == v3) = false from by simpa using hv3, Bool.and_false]
  obtain ⟨nw, hnw⟩ : ∃ nw, nw = nw0.take 5 ++ z32 := ⟨_, rfl⟩
  rw [← hnw] at hnl hnb hkp
  obtain ⟨Y, hY⟩ : ∃ Y, Y = (hdN nw).take 5 ++ z32 := ⟨_, rfl⟩
  have hYl : Y.length = 37 := by rw [hY, List.length_append, List.length_take, hdN_len hnl, z32_len]; decide
  have hYd : Y.drop 5 = z32 := by
    rw [hY, List.drop_append_of_le_length (by rw [List.length_take, hdN_len hnl]; omega), List.drop_of_length_le (by rw [List.length_take]; omega), List.nil_append]
  have hp1 := next_new1 old hold hc
  have hp2 := next_new2 old nw hold hc hnl hkp hnb Y hY
  obtain ⟨C, hC⟩ : ∃ C, C = (nz old).length := ⟨_, rfl⟩
  rw [← hC] at hp1 hp2
  have hqp : (old.drop 5).length = 32 := by rw [List.length_drop, hold]
  have HNZ : Hid (∀ (k : Nat) (q : Int), (old.drop 5)[k]? = some q → (((old.drop 5).take (k + 1)).filter fun p => !(p == 0)).length = (((old.drop 5).take k).filter fun p => !(p == 0)).length + (if q = 0 then 0 else 1)) := fun k q hq => nz_next hq
  have HCE : Hid (((old.drop 5).filter fun p => !(p == 0)).length = C) := hC.symm
  have HAT : Hid (∀ (k : Nat) (q : Int), (old.drop 5)[k]? = some q → old[5 + k]? = some q) := fun k q hq => by rw [List.getElem?_drop] at hq; exact hq
  have HQL := Lib.hid hqp
  have HO := Lib.hid hold
  have HN := Lib.hid hnow
  have HP1 := Lib.hid hp1
  have HP2 := Lib.hid hp2
  have HCK := Lib.hid (rcheckL hold)
  rw [hc] at HCK
  have HQ3 := Lib.hid hq3
  have HN3 := Lib.hid hn3
  have HNW := Lib.hid hnw
  have HYL := Lib.hid hYl
  have HYD := Lib.hid hYd
  have HNL := Lib.hid hnl
  have HL2 := Lib.hid hl2
  have HN0 := Lib.hid hnw0
  generalize old.drop 5 = QO at *
  clear hp1 hp2 hqp hold hnow hc hq3 hn3 hnw hYl hYd hnl hl2 hnw0 hnb hkp hY hC hbn hb0 h03 hv3 hv hvb heq hb3
  cases hy : chkL Y
  all_goals
    rw [hy] at HP2
    clear hy
    go_enter Try.func5, Try.ntmps5
    go_wp2_with (first
      | ((with_reducible show wpList _ _ _ (⟨some 2, _, _, _, _, _⟩ :: _) _ _); refine wpList_box_ino rfl _ rfl HO.out rfl ?_; intro w1 hr1 hb1 hlt1)
      | ((with_reducible show wpList _ _ _ (⟨some 3, _, _, _, _, _⟩ :: _) _ _); refine wpList_box_ino rfl _ rfl HN.out rfl ?_; intro w2 hr2 hb2 hlt2; have HS := Lib.hid (S2.start hr1 hb1 hlt1 hr2 hb2 hlt2); clear hr1 hb1 hlt1 hr2 hb2 hlt2)
      | ((with_reducible show wpList _ _ _ (⟨some 13, _, _, _, _, _⟩ :: _) _ _); refine wpList_load_ino rfl _ rfl HS.out.r2 HO.out rfl ?_)
      | (go_at_call 13; refine (HCK.out _).mono ?_; rintro e w3 ⟨rfl, hb3⟩; replace HS := Lib.hid (HS.out.below hb3 HS.out.o2); clear hb3)
      | ((with_reducible show wpList _ _ _ (⟨some 18, _, _, _, _, _⟩ :: _) _ _); refine wpList_load_num rfl _ _ rfl Try.underlying3 HS.out.r3 3 _ HN3.out rfl ?_)
      | ((with_reducible show wpList _ _ _ (⟨some 20, _, _, _, _, _⟩ :: _) _ _); refine wpList_load_num rfl _ _ rfl Try.underlying3 HS.out.r2 3 _ HQ3.out rfl ?_)
      | ((with_reducible show wpList _ _ _ (⟨some 23, _, _, _, _, _⟩ :: _) _ _); refine wpList_load_num rfl _ _ rfl Try.underlying3 HS.out.r3 3 _ HN3.out rfl ?_)
      | ((with_reducible show wpList _ _ _ (⟨none, Op.store 3 (.tmp 25) _, _, _, _, _⟩ :: _) _ _); refine wpList_store_num rfl _ _ _ rfl Try.underlying3 (by kernel_rfl) HS.out.r3 HN.out 3 v3 (by decide) rfl rfl ?_; intro w4 hr4 ho4 hl4; rw [← HN0.out] at hr4; replace HS := Lib.hid (HS.out.on3 hr4 ho4); clear hr4 ho4 hl4)
      | ((with_reducible show wpList _ _ _ (⟨some 26, _, _, _, _, _⟩ :: _) _ _); refine wpList_build_ptrs rfl rfl ?_)
      | ((with_reducible show wpList _ _ _ (⟨none, Op.store 22 (.tmp 27) _, _, _, _, _⟩ :: _) _ _); refine wpList_store_ptrs rfl _ _ rfl HS.out.r3 HL2.out z32_len rfl rfl ?_; intro w5 hr5 ho5; rw [← HNW.out] at hr5; replace HS := Lib.hid (HS.out.on3 hr5 ho5); clear hr5 ho5))
    go_loopw [6, 5] (fun j c wr => ∃ k : Nat, k ≤ 32 ∧ j = .int .i64 (k : Int) ∧ ∃ n : Nat, c = .int .i64 (n : Int) ∧ n ≤ k ∧ n = ((QO.take k).filter fun p => !(p == 0)).length ∧ S2 w wr w.heap.size w1.heap.size old nw) (fun j _ _ => 32 - (intOf j).toNat)
    case atStart => exact ⟨0, by omega, rfl, 0, rfl, Nat.le_refl _, rfl, HS.out⟩
    case round =>
      obtain ⟨k, hk, rfl, n, rfl, hnk, hn, hs⟩ := hrel
      replace HS := Lib.hid hs
      have HCN := Lib.hid hn
      clear hs hn
      by_cases hlt : k < 32
      · have hltI : (k : Int) < 32 := by omega
        obtain ⟨q, hq⟩ : ∃ q, QO[k]? = some q := ⟨_, List.getElem?_eq_getElem (by rw [HQL.out]; exact hlt)⟩
        have HQ := Lib.hid (HAT.out k q hq)
        have HCX := Lib.hid (HNZ.out k q hq)
        rw [← HCN.out] at HCX
        clear hq
        by_cases h0 : q = 0
        · rw [if_pos h0] at HCX
          have h0b : (q != 0) = false := by simp [h0]
          clear h0
          go_wp2_with ((with_reducible show wpList _ _ _ (⟨some 35, _, _, _, _, _⟩ :: _) _ _); refine wpList_load_num rfl _ _ rfl Try.underlying3 HS.out.r2 (5 + k) _ HQ.out rfl ?_)
          go_roundw
          case measure => simp [intOf]; omega
          case rel => exact ⟨k + 1, by omega, by simp, n, rfl, by omega, HCX.out.symm, HS.out⟩
        · rw [if_neg h0] at HCX
          have h0b : (q != 0) = true := by simp [h0]
          clear h0
          go_wp2_with ((with_reducible show wpList _ _ _ (⟨some 35, _, _, _, _, _⟩ :: _) _ _); refine wpList_load_num rfl _ _ rfl Try.underlying3 HS.out.r2 (5 + k) _ HQ.out rfl ?_)
          go_roundw
          case measure => simp [intOf]; omega
          case rel => exact ⟨k + 1, by omega, by simp, n + 1, by simp, by omega, HCX.out.symm, HS.out⟩
      · have hge : (32 : Int) ≤ (k : Int) := by omega
        have hnC : n = C := by
          rw [HCN.out, ← HCE.out, List.take_of_length_le (by rw [HQL.out]; omega)]
        subst hnC
        clear HCE HCN HNZ
        go_wp2_with (first
          | ((with_reducible show wpList _ _ _ (⟨some 40, _, _, _, _, _⟩ :: _) _ _); refine wpList_load_ino rfl _ rfl HS.out.r2 HO.out rfl ?_)
          | ((with_reducible show wpList _ _ _ (⟨some 41, _, _, _, _, _⟩ :: _) _ _); refine wpList_build_ino rfl rfl ?_))
        refine (HP1.out _).mono ?_
        rintro e w6 ⟨A6, c6, rfl, hb6⟩
        replace HS := Lib.hid (HS.out.below hb6 HS.out.o2)
        clear hb6
        go_wp2_with (first
          | ((with_reducible show wpList _ _ _ (⟨some 7, _, _, _, _, _⟩ :: _) _ _); refine wpList_alloc_ino rfl rfl ?_; intro w7 hr7 hb7 hlt7; have hb3 := HS.out.o2; replace HS := Lib.hid (HS.out.below hb7 HS.out.o2))
          | ((with_reducible show wpList _ _ _ (⟨none, Op.store 24 (.tmp 7) _, _, _, _, _⟩ :: _) _ _); refine wpList_store_ino rfl _ _ rfl hr7 zIno_len zIno_len rfl rfl ?_; intro w8 hr8 ho8; replace HS := Lib.hid (HS.out.only ho8 hb3))
          | ((with_reducible show wpList _ _ _ (⟨some 49, _, _, _, _, _⟩ :: _) _ _); refine wpList_load_ino rfl _ rfl hr8 zIno_len rfl ?_)
          | ((with_reducible show wpList _ _ _ (⟨some 50, _, _, _, _, _⟩ :: _) _ _); refine wpList_build_ino rfl rfl ?_)
          | ((with_reducible show wpList _ _ _ (⟨some 51, _, _, _, _, _⟩ :: _) _ _); refine wpList_neq_ino rfl rfl zIno zIno rfl rfl zIno_len zIno_len ?_; rw [show (!(zIno == zIno)) = false from rfl])
          | ((with_reducible show wpList _ _ _ (⟨some 60, _, _, _, _, _⟩ :: _) _ _); refine wpList_load_ino rfl _ rfl HS.out.r2 HO.out rfl ?_)
          | ((with_reducible show wpList _ _ _ (⟨some 61, _, _, _, _, _⟩ :: _) _ _); refine wpList_load_ino rfl _ rfl HS.out.r3 HNL.out rfl ?_))
        refine (HP2.out _).mono ?_
        first
        | (rintro e w9 ⟨h9, hb9⟩
           rw [if_neg (by decide)] at h9
           subst h9
           replace HS := Lib.hid (HS.out.below hb9 HS.out.o2)
           clear hb9
           go_wp2_with (first
             | ((with_reducible show wpList _ _ _ (⟨some 10, _, _, _, _, _⟩ :: _) _ _); refine wpList_alloc_ino rfl rfl ?_; intro w10 hr10 hb10 hlt10; have hb4 := HS.out.o2; replace HS := Lib.hid (HS.out.below hb10 HS.out.o2))
             | ((with_reducible show wpList _ _ _ (⟨none, Op.store 24 (.tmp 10) _, _, _, _, _⟩ :: _) _ _); refine wpList_store_ino rfl _ _ rfl hr10 zIno_len zIno_len rfl rfl ?_; intro w11 hr11 ho11; replace HS := Lib.hid (HS.out.only ho11 hb4))
             | ((with_reducible show wpList _ _ _ (⟨some 68, _, _, _, _, _⟩ :: _) _ _); refine wpList_load_ino rfl _ rfl hr11 zIno_len rfl ?_)
             | ((with_reducible show wpList _ _ _ (⟨some 69, _, _, _, _, _⟩ :: _) _ _); refine wpList_build_ino rfl rfl ?_)
             | ((with_reducible show wpList _ _ _ (⟨some 70, _, _, _, _, _⟩ :: _) _ _); refine wpList_eql_ino rfl rfl zIno zIno rfl rfl zIno_len zIno_len ?_; rw [show (zIno == zIno) = true from rfl])
             | (go_at_call 8; refine (awake_any _).mono ?_; rintro e w12 ⟨rfl, hb12⟩))
           go_ret
           exact ⟨rfl, HS.out.bel.trans (hb12.mono HS.out.bel.size)⟩)
        | (rintro e w9 ⟨h9, hb9⟩
           rw [if_pos trivial] at h9
           obtain ⟨A9, c9, rfl⟩ := h9
           replace HS := Lib.hid (HS.out.below hb9 HS.out.o2)
           clear hb9
           go_wp2_with (first
             | ((with_reducible show wpList _ _ _ (⟨some 10, _, _, _, _, _⟩ :: _) _ _); refine wpList_alloc_ino rfl rfl ?_; intro w10 hr10 hb10 hlt10; have hb4 := HS.out.o2; replace HS := Lib.hid (HS.out.below hb10 HS.out.o2))
             | ((with_reducible show wpList _ _ _ (⟨none, Op.store 24 (.tmp 10) _, _, _, _, _⟩ :: _) _ _); refine wpList_store_ino rfl _ _ rfl hr10 zIno_len HYL.out rfl rfl ?_; intro w11 hr11 ho11; replace HS := Lib.hid (HS.out.only ho11 hb4))
             | ((with_reducible show wpList _ _ _ (⟨some 80, _, _, _, _, _⟩ :: _) _ _); refine wpList_load_ptrs rfl _ rfl hr11 HYL.out rfl ?_; rw [HYD.out])
             | ((with_reducible show wpList _ _ _ (⟨some 81, _, _, _, _, _⟩ :: _) _ _); refine wpList_build_ptrs rfl rfl ?_)
             | ((with_reducible show wpList _ _ _ (⟨some 82, _, _, _, _, _⟩ :: _) _ _); refine wpList_eql_ptrs rfl rfl z32 z32 rfl rfl z32_len z32_len ?_; rw [show (z32 == z32) = true from rfl])
             | (go_at_call 8; refine (awake_any _).mono ?_; rintro e w12 ⟨rfl, hb12⟩))
           go_ret
           exact ⟨rfl, HS.out.bel.trans (hb12.mono HS.out.bel.size)⟩)

set_option maxRecDepth 100000 in
set_option maxHeartbeats 1600000 in
theorem new_other (old now : List Int) (w : World) (hold : old.length = 37) (hnow : now.length = 37) (hc : chkL old = true) (hbn : ∀ x ∈ now, -9223372036854775808 ≤ x ∧ x ≤ 9223372036854775807) (q3 n3 : Int) (hq3 : old[3]? = some q3) (hn3 : now[3]? = some n3) (heq : ¬ n3 = q3) :
    Calls Try.prog 5 #[.agg (ints old), .agg (ints now)] w fun e w' => e = .returned (.bool true) ∧ Below w.heap.size w w' := by
  obtain ⟨v3, hv⟩ : ∃ v3, v3 = n3 := ⟨_, rfl⟩
  have hv3 : ¬ q3 = v3 := by rw [hv]; exact fun e => heq e.symm
  obtain ⟨nw0, hnw0⟩ : ∃ nw0, nw0 = now := ⟨_, rfl⟩
  have h03 : nw0[3]? = some v3 := by rw [hnw0, hv]; exact hn3
  have hb0 : ∀ x ∈ nw0, -9223372036854775808 ≤ x ∧ x ≤ 9223372036854775807 := by rw [hnw0]; exact hbn
  have heqb : (n3 == q3) = false := by simp [heq]
  have hl2 : nw0.length = 37 := by rw [hnw0]; exact hnow
  have hnl : (nw0.take 5 ++ z32).length = 37 := by simp [hl2, z32_len]
  have hnb : ∀ x ∈ nw0.take 5 ++ z32, -9223372036854775808 ≤ x ∧ x ≤ 9223372036854775807 := by
    intro x hx
    rcases List.mem_append.1 hx with hx | hx
    · exact hb0 x (List.mem_of_mem_take hx)
    · unfold z32 at hx
      rw [List.eq_of_mem_replicate hx]; decide
  have hkp : keeps old (nw0.take 5 ++ z32) = false := by
    have e1 : old.getD 3 0 = q3 := by rw [List.getD_eq_getElem?_getD, hq3]; rfl
    have e2 : (nw0.take 5 ++ z32).getD 3 0 = v3 := by
      rw [List.getD_eq_getElem?_getD, List.getElem?_append_left (by rw [List.length_take]; omega), List.getElem?_take, if_pos (by decide), h03]; rfl
    unfold keeps
    rw [e1, e2, show (q3 == v3) = false from by simpa using hv3, Bool.and_false]
  obtain ⟨nw, hnw⟩ : ∃ nw, nw = nw0.take 5 ++ z32 := ⟨_, rfl⟩
  rw [← hnw] at hnl hnb hkp
  obtain ⟨Y, hY⟩ : ∃ Y, Y = (hdN nw).take 5 ++ z32 := ⟨_, rfl⟩
  have hYl : Y.length = 37 := by rw [hY, List.length_append, List.length_take, hdN_len hnl, z32_len]; decide
  have hYd : Y.drop 5 = z32 := by
    rw [hY, List.drop_append_of_le_length (by rw [List.length_take, hdN_len hnl]; omega), List.drop_of_length_le (by rw [List.length_take]; omega), List.nil_append]
  have hp1 := next_new1 old hold hc
  have hp2 := next_new2 old nw hold hc hnl hkp hnb Y hY
  obtain ⟨C, hC⟩ : ∃ C, C = (nz old).length := ⟨_, rfl⟩
  rw [← hC] at hp1 hp2
  have hqp : (old.drop 5).length = 32 := by rw [List.length_drop, hold]
  have HNZ : Hid (∀ (k : Nat) (q : Int), (old.drop 5)[k]? = some q → (((old.drop 5).take (k + 1)).filter fun p => !(p == 0)).length = (((old.drop 5).take k).filter fun p => !(p == 0)).length + (if q = 0 then 0 else 1)) := fun k q hq => nz_next hq
  have HCE : Hid (((old.drop 5).filter fun p => !(p == 0)).length = C) := hC.symm
  have HAT : Hid (∀ (k : Nat) (q : Int), (old.drop 5)[k]? = some q → old[5 + k]? = some q) := fun k q hq => by rw [List.getElem?_drop] at hq; exact hq
  have HQL := Lib.hid hqp
  have HO := Lib.hid hold
  have HN := Lib.hid hnow
  have HP1 := Lib.hid hp1
  have HP2 := Lib.hid hp2
  have HCK := Lib.hid (rcheckL hold)
  rw [hc] at HCK
  have HQ3 := Lib.hid hq3
  have HN3 := Lib.hid hn3
  have HNW := Lib.hid hnw
  have HYL := Lib.hid hYl
  have HYD := Lib.hid hYd
  have HNL := Lib.hid hnl
  have HL2 := Lib.hid hl2
  have HN0 := Lib.hid hnw0
  generalize old.drop 5 = QO at *
  clear hp1 hp2 hqp hold hnow hc hq3 hn3 hnw hYl hYd hnl hl2 hnw0 hnb hkp hY hC hbn hb0 h03 hv3 hv heq
  cases hy : chkL Y
  all_goals
    rw [hy] at HP2
    clear hy
    go_enter Try.func5, Try.ntmps5
    go_wp2_with (first
      | ((with_reducible show wpList _ _ _ (⟨some 2, _, _, _, _, _⟩ :: _) _ _); refine wpList_box_ino rfl _ rfl HO.out rfl ?_; intro w1 hr1 hb1 hlt1)
      | ((with_reducible show wpList _ _ _ (⟨some 3, _, _, _, _, _⟩ :: _) _ _); refine wpList_box_ino rfl _ rfl HN.out rfl ?_; intro w2 hr2 hb2 hlt2; have HS := Lib.hid (S2.start hr1 hb1 hlt1 hr2 hb2 hlt2); clear hr1 hb1 hlt1 hr2 hb2 hlt2)
      | ((with_reducible show wpList _ _ _ (⟨some 13, _, _, _, _, _⟩ :: _) _ _); refine wpList_load_ino rfl _ rfl HS.out.r2 HO.out rfl ?_)
      | (go_at_call 13; refine (HCK.out _).mono ?_; rintro e w3 ⟨rfl, hb3⟩; replace HS := Lib.hid (HS.out.below hb3 HS.out.o2); clear hb3)
      | ((with_reducible show wpList _ _ _ (⟨some 18, _, _, _, _, _⟩ :: _) _ _); refine wpList_load_num rfl _ _ rfl Try.underlying3 HS.out.r3 3 _ HN3.out rfl ?_)
      | ((with_reducible show wpList _ _ _ (⟨some 20, _, _, _, _, _⟩ :: _) _ _); refine wpList_load_num rfl _ _ rfl Try.underlying3 HS.out.r2 3 _ HQ3.out rfl ?_)
      | ((with_reducible show wpList _ _ _ (⟨some 23, _, _, _, _, _⟩ :: _) _ _); refine wpList_load_num rfl _ _ rfl Try.underlying3 HS.out.r3 3 _ HN3.out rfl ?_)
      | ((with_reducible show wpList _ _ _ (⟨none, Op.store 3 (.tmp 25) _, _, _, _, _⟩ :: _) _ _); refine wpList_store_num rfl _ _ _ rfl Try.underlying3 (by kernel_rfl) HS.out.r3 HN.out 3 v3 (by decide) rfl rfl ?_; intro w4 hr4 ho4 hl4; rw [← HN0.out] at hr4; replace HS := Lib.hid (HS.out.on3 hr4 ho4); clear hr4 ho4 hl4)
      | ((with_reducible show wpList _ _ _ (⟨some 26, _, _, _, _, _⟩ :: _) _ _); refine wpList_build_ptrs rfl rfl ?_)
      | ((with_reducible show wpList _ _ _ (⟨none, Op.store 22 (.tmp 27) _, _, _, _, _⟩ :: _) _ _); refine wpList_store_ptrs rfl _ _ rfl HS.out.r3 HN.out z32_len rfl rfl ?_; intro w5 hr5 ho5; rw [← HN0.out, ← HNW.out] at hr5; replace HS := Lib.hid (HS.out.on3 hr5 ho5); clear hr5 ho5))
    go_loopw [6, 5] (fun j c wr => ∃ k : Nat, k ≤ 32 ∧ j = .int .i64 (k : Int) ∧ ∃ n : Nat, c = .int .i64 (n : Int) ∧ n ≤ k ∧ n = ((QO.take k).filter fun p => !(p == 0)).length ∧ S2 w wr w.heap.size w1.heap.size old nw) (fun j _ _ => 32 - (intOf j).toNat)
    case atStart => exact ⟨0, by omega, rfl, 0, rfl, Nat.le_refl _, rfl, HS.out⟩
    case round =>
      obtain ⟨k, hk, rfl, n, rfl, hnk, hn, hs⟩ := hrel
      replace HS := Lib.hid hs
      have HCN := Lib.hid hn
      clear hs hn
      by_cases hlt : k < 32
      · have hltI : (k : Int) < 32 := by omega
        obtain ⟨q, hq⟩ : ∃ q, QO[k]? = some q := ⟨_, List.getElem?_eq_getElem (by rw [HQL.out]; exact hlt)⟩
        have HQ := Lib.hid (HAT.out k q hq)
        have HCX := Lib.hid (HNZ.out k q hq)
        rw [← HCN.out] at HCX
        clear hq
        by_cases h0 : q = 0
        · rw [if_pos h0] at HCX
          have h0b : (q != 0) = false := by simp [h0]
          clear h0
          go_wp2_with ((with_reducible show wpList _ _ _ (⟨some 35, _, _, _, _, _⟩ :: _) _ _); refine wpList_load_num rfl _ _ rfl Try.underlying3 HS.out.r2 (5 + k) _ HQ.out rfl ?_)
          go_roundw
          case measure => simp [intOf]; omega
          case rel => exact ⟨k + 1, by omega, by simp, n, rfl, by omega, HCX.out.symm, HS.out⟩
        · rw [if_neg h0] at HCX
          have h0b : (q != 0) = true := by simp [h0]
          clear h0
          go_wp2_with ((with_reducible show wpList _ _ _ (⟨some 35, _, _, _, _, _⟩ :: _) _ _); refine wpList_load_num rfl _ _ rfl Try.underlying3 HS.out.r2 (5 + k) _ HQ.out rfl ?_)
          go_roundw
          case measure => simp [intOf]; omega
          case rel => exact ⟨k + 1, by omega, by simp, n + 1, by simp, by omega, HCX.out.symm, HS.out⟩
      · have hge : (32 : Int) ≤ (k : Int) := by omega
        have hnC : n = C := by
          rw [HCN.out, ← HCE.out, List.take_of_length_le (by rw [HQL.out]; omega)]
        subst hnC
        clear HCE HCN HNZ
        go_wp2_with (first
          | ((with_reducible show wpList _ _ _ (⟨some 40, _, _, _, _, _⟩ :: _) _ _); refine wpList_load_ino rfl _ rfl HS.out.r2 HO.out rfl ?_)
          | ((with_reducible show wpList _ _ _ (⟨some 41, _, _, _, _, _⟩ :: _) _ _); refine wpList_build_ino rfl rfl ?_))
        refine (HP1.out _).mono ?_
        rintro e w6 ⟨A6, c6, rfl, hb6⟩
        replace HS := Lib.hid (HS.out.below hb6 HS.out.o2)
        clear hb6
        go_wp2_with (first
          | ((with_reducible show wpList _ _ _ (⟨some 7, _, _, _, _, _⟩ :: _) _ _); refine wpList_alloc_ino rfl rfl ?_; intro w7 hr7 hb7 hlt7; have hb3 := HS.out.o2; replace HS := Lib.hid (HS.out.below hb7 HS.out.o2))
          | ((with_reducible show wpList _ _ _ (⟨none, Op.store 24 (.tmp 7) _, _, _, _, _⟩ :: _) _ _); refine wpList_store_ino rfl _ _ rfl hr7 zIno_len zIno_len rfl rfl ?_; intro w8 hr8 ho8; replace HS := Lib.hid (HS.out.only ho8 hb3))
          | ((with_reducible show wpList _ _ _ (⟨some 49, _, _, _, _, _⟩ :: _) _ _); refine wpList_load_ino rfl _ rfl hr8 zIno_len rfl ?_)
          | ((with_reducible show wpList _ _ _ (⟨some 50, _, _, _, _, _⟩ :: _) _ _); refine wpList_build_ino rfl rfl ?_)
          | ((with_reducible show wpList _ _ _ (⟨some 51, _, _, _, _, _⟩ :: _) _ _); refine wpList_neq_ino rfl rfl zIno zIno rfl rfl zIno_len zIno_len ?_; rw [show (!(zIno == zIno)) = false from rfl])
          | ((with_reducible show wpList _ _ _ (⟨some 60, _, _, _, _, _⟩ :: _) _ _); refine wpList_load_ino rfl _ rfl HS.out.r2 HO.out rfl ?_)
          | ((with_reducible show wpList _ _ _ (⟨some 61, _, _, _, _, _⟩ :: _) _ _); refine wpList_load_ino rfl _ rfl HS.out.r3 HNL.out rfl ?_))
        refine (HP2.out _).mono ?_
        first
        | (rintro e w9 ⟨h9, hb9⟩
           rw [if_neg (by decide)] at h9
           subst h9
           replace HS := Lib.hid (HS.out.below hb9 HS.out.o2)
           clear hb9
           go_wp2_with (first
             | ((with_reducible show wpList _ _ _ (⟨some 10, _, _, _, _, _⟩ :: _) _ _); refine wpList_alloc_ino rfl rfl ?_; intro w10 hr10 hb10 hlt10; have hb4 := HS.out.o2; replace HS := Lib.hid (HS.out.below hb10 HS.out.o2))
             | ((with_reducible show wpList _ _ _ (⟨none, Op.store 24 (.tmp 10) _, _, _, _, _⟩ :: _) _ _); refine wpList_store_ino rfl _ _ rfl hr10 zIno_len zIno_len rfl rfl ?_; intro w11 hr11 ho11; replace HS := Lib.hid (HS.out.only ho11 hb4))
             | ((with_reducible show wpList _ _ _ (⟨some 68, _, _, _, _, _⟩ :: _) _ _); refine wpList_load_ino rfl _ rfl hr11 zIno_len rfl ?_)
             | ((with_reducible show wpList _ _ _ (⟨some 69, _, _, _, _, _⟩ :: _) _ _); refine wpList_build_ino rfl rfl ?_)
             | ((with_reducible show wpList _ _ _ (⟨some 70, _, _, _, _, _⟩ :: _) _ _); refine wpList_eql_ino rfl rfl zIno zIno rfl rfl zIno_len zIno_len ?_; rw [show (zIno == zIno) = true from rfl])
             | (go_at_call 8; refine (awake_any _).mono ?_; rintro e w12 ⟨rfl, hb12⟩))
           go_ret
           exact ⟨rfl, HS.out.bel.trans (hb12.mono HS.out.bel.size)⟩)
        | (rintro e w9 ⟨h9, hb9⟩
           rw [if_pos trivial] at h9
           obtain ⟨A9, c9, rfl⟩ := h9
           replace HS := Lib.hid (HS.out.below hb9 HS.out.o2)
           clear hb9
           go_wp2_with (first
             | ((with_reducible show wpList _ _ _ (⟨some 10, _, _, _, _, _⟩ :: _) _ _); refine wpList_alloc_ino rfl rfl ?_; intro w10 hr10 hb10 hlt10; have hb4 := HS.out.o2; replace HS := Lib.hid (HS.out.below hb10 HS.out.o2))
             | ((with_reducible show wpList _ _ _ (⟨none, Op.store 24 (.tmp 10) _, _, _, _, _⟩ :: _) _ _); refine wpList_store_ino rfl _ _ rfl hr10 zIno_len HYL.out rfl rfl ?_; intro w11 hr11 ho11; replace HS := Lib.hid (HS.out.only ho11 hb4))
             | ((with_reducible show wpList _ _ _ (⟨some 80, _, _, _, _, _⟩ :: _) _ _); refine wpList_load_ptrs rfl _ rfl hr11 HYL.out rfl ?_; rw [HYD.out])
             | ((with_reducible show wpList _ _ _ (⟨some 81, _, _, _, _, _⟩ :: _) _ _); refine wpList_build_ptrs rfl rfl ?_)
             | ((with_reducible show wpList _ _ _ (⟨some 82, _, _, _, _, _⟩ :: _) _ _); refine wpList_eql_ptrs rfl rfl z32 z32 rfl rfl z32_len z32_len ?_; rw [show (z32 == z32) = true from rfl])
             | (go_at_call 8; refine (awake_any _).mono ?_; rintro e w12 ⟨rfl, hb12⟩))
           go_ret
           exact ⟨rfl, HS.out.bel.trans (hb12.mono HS.out.bel.size)⟩)

theorem allocNew_walk (old now : List Int) (w : World) (hold : old.length = 37) (hnow : now.length = 37) (hbn : ∀ x ∈ now, -9223372036854775808 ≤ x ∧ x ≤ 9223372036854775807) :
    Calls Try.prog 5 #[.agg (ints old), .agg (ints now)] w fun e w' => e = .returned (.bool true) ∧ Below w.heap.size w w' := by
  cases hc : chkL old
  · exact new_bad old now w hold hnow hc
  · have h1 : old[3]? = some old[3] := List.getElem?_eq_getElem (by omega)
    have h2 : now[3]? = some now[3] := List.getElem?_eq_getElem (by omega)
    by_cases he : now[3] = old[3]
    · exact new_same old now w hold hnow hc hbn _ _ h1 h2 he
    · exact new_other old now w hold hnow hc hbn _ _ h1 h2 he
end Go.Proofs.Ytgfhepfikphliaa.Al
