/-
  'AllocNexts' walked: any inode, any inode it shall be, any blocks of it.
-/
import Derived.Test.YtgfhepfikphliaaAlloc3
import Derived.Test.YtgfhepfikphliaaAlloc8
import Derived.Test.YtgfhepfikphliaaRowG
namespace Go.Proofs.Ytgfhepfikphliaa.Al
open Go.RowKit Wd In
set_option linter.unusedVariables false

def IS (l : List Int) (u : Value) (w : World) : Prop := ∃ A c, u = .slice A l.length c ∧ Sl w w.heap.size 1 A l.length (l.map (Value.int .i64))
def GS (B : Nat) (G : List Int) (u : Value) (w : World) : Prop := ∃ A c, u = .slice A G.length c ∧ w.ownsRow B 3 1 (.slice A G.length c) G.length (G.map (Value.int .i64))
def NR (B : Nat) (X G : List Int) (ok : Bool) (u : Value) (w : World) : Prop := ∃ A c, u = .tuple #[.agg (ints X), .slice A G.length c, .bool ok] ∧ w.ownsRow B 3 1 (.slice A G.length c) G.length (G.map (Value.int .i64))
theorem own_keptN {w w' : World} {B n s : Nat} {e : TypeId} {v : Value} {xs : List Value} (h : w.ownsRow B e s v n xs) (hk : Kept w w') : w'.ownsRow B e s v n xs := by
  refine ⟨h.1, ?_⟩
  rcases h.2 with hn | ⟨g, cap, cur, rfl, hb, hgg, rest⟩
  · exact .inl hn
  · exact .inr ⟨g, cap, cur, rfl, hb, (Below.block hk g (Array.getElem?_eq_some_iff.1 hgg).1).trans hgg, rest⟩
theorem own_onlyN {w w' : World} {B n s b : Nat} {e : TypeId} {v : Value} {xs : List Value} (h : w.ownsRow B e s v n xs) (ho : Only b w w') (hne : v.ownBlock ≠ some b) : w'.ownsRow B e s v n xs := by
  refine ⟨h.1, ?_⟩
  rcases h.2 with hn | ⟨g, cap, cur, rfl, hb, hgg, rest⟩
  · exact .inl hn
  · exact .inr ⟨g, cap, cur, rfl, hb, (ho.block g (fun e => hne (by rw [← e]; rfl))).trans hgg, rest⟩
theorem GS.kept {B : Nat} {G : List Int} {u : Value} {w w' : World} (h : GS B G u w) (hk : Kept w w') : GS B G u w' := by obtain ⟨A, c, e, ho⟩ := h; exact ⟨A, c, e, own_keptN ho hk⟩
theorem NR.kept {B : Nat} {X G : List Int} {ok : Bool} {u : Value} {w w' : World} (h : NR B X G ok u w) (hk : Kept w w') : NR B X G ok u w' := by obtain ⟨A, c, e, ho⟩ := h; exact ⟨A, c, e, own_keptN ho hk⟩
theorem GS.only {B b : Nat} {G : List Int} {u : Value} {w w' : World} (h : GS B G u w) (hb : ∃ cs, w.heap[b]? = some (.cells cs 24 (0, 0))) (hon : Only b w w') : GS B G u w' := by
  obtain ⟨A, c, e, ho⟩ := h; exact ⟨A, c, e, own_onlyN ho hon (own_other ho hb (by decide))⟩
theorem NR.only {B b : Nat} {X G : List Int} {ok : Bool} {u : Value} {w w' : World} (h : NR B X G ok u w) (hb : ∃ cs, w.heap[b]? = some (.cells cs 24 (0, 0))) (hon : Only b w w') : NR B X G ok u w' := by
  obtain ⟨A, c, e, ho⟩ := h; exact ⟨A, c, e, own_onlyN ho hon (own_other ho hb (by decide))⟩
/-- what Next hands back, in one form -/
def outX (m : Option (List Int × List Int)) : List Int := match m with | none => zIno | some (X, _) => X
def outG (m : Option (List Int × List Int)) : List Int := match m with | none => [] | some (_, G) => G
theorem nextR_nr {w0 w' : World} {m : Option (List Int × List Int)} {e : Ending} (h : NextR w0 m e w') (B : Nat) (hB : B ≤ w0.heap.size) : (∃ v, e = .returned v ∧ NR B (outX m) (outG m) m.isSome v w') ∧ Below w0.heap.size w0 w' := by
  cases m with
  | none =>
    obtain ⟨rfl, hb⟩ := h
    exact ⟨⟨_, rfl, none, 0, rfl, World.ownsRow_nil _ _ _ _⟩, hb⟩
  | some p =>
    obtain ⟨X, g⟩ := p
    obtain ⟨A, c, rfl, ho, hb⟩ := h
    exact ⟨⟨_, rfl, A, c, rfl, own_low ho hB⟩, hb⟩
theorem outX_len {old now ps ts : List Int} (hnow : now.length = 37) : (outX (nextM old now ps ts)).length = 37 := by
  unfold nextM
  split
  · cases h : goP (blN now) (-1) ps ts (X1 old now) with
    | none => exact zIno_len
    | some X =>
      simp only [Option.bind_some]
      split
      · exact (goP_len h).trans (X1_len hnow)
      · exact zIno_len
  · exact zIno_len
theorem goneL_le (old X : List Int) (h : old.length = 37) : (goneL old X).length ≤ 37 := by
  unfold goneL
  refine Nat.le_trans (List.length_filter_le _ _) ?_
  rw [List.length_drop]
  omega
theorem outG_le {old now ps ts : List Int} (hold : old.length = 37) : (outG (nextM old now ps ts)).length ≤ 37 := by
  unfold nextM
  split
  · cases h : goP (blN now) (-1) ps ts (X1 old now) with
    | none => exact Nat.zero_le _
    | some X =>
      simp only [Option.bind_some]
      split
      · exact goneL_le old X hold
      · exact Nat.zero_le _
  · exact Nat.zero_le _

set_option maxRecDepth 100000 in
set_option maxHeartbeats 3200000 in
theorem nexts_walk (old now : List Int) (Ap : Option Addr) (ps : List Int) (cp : Nat) (At : Option Addr) (ts : List Int) (ct : Nat) (w : World) (hold : old.length = 37) (hnow : now.length = 37) (hbn : ∀ x ∈ now, -9223372036854775808 ≤ x ∧ x ≤ 9223372036854775807)
    (hps : Sl w w.heap.size 1 Ap ps.length (ps.map (Value.int .i64))) (hcp : ps.length ≤ cp) (hbig : ps.length ≤ 140737488355328)
    (hts : Sl w w.heap.size 1 At ts.length (ts.map (Value.int .i64))) (hct : ts.length ≤ ct) (hbigt : ts.length ≤ 140737488355328) :
    Calls Try.prog 3 #[.agg (ints old), .agg (ints now), .slice Ap ps.length cp, .slice At ts.length ct] w fun e w' => e = .returned (.bool true) ∧ Below w.heap.size w w' := by
  have HLO := Lib.hid hold
  have HLN := Lib.hid hnow
  have HP0 := Lib.hid hps
  have HT0 := Lib.hid hts
  have HBN := Lib.hid hbn
  clear hold hnow hps hts hbn
  obtain ⟨X, hX⟩ : ∃ X, X = outX (nextM old now ps ts) := ⟨_, rfl⟩
  obtain ⟨G, hG⟩ : ∃ G, G = outG (nextM old now ps ts) := ⟨_, rfl⟩
  obtain ⟨ok, hok⟩ : ∃ ok, ok = (nextM old now ps ts).isSome := ⟨_, rfl⟩
  have HX : Hid (X.length = 37) := Lib.hid (by rw [hX]; exact outX_len HLN.out)
  have hG37 : G.length ≤ 37 := by rw [hG]; exact outG_le HLO.out
  have NXA : Hid (∀ B A3 A7 c3 c7 w', B ≤ w'.heap.size → Sl w' w'.heap.size 1 A3 ps.length (ps.map (Value.int .i64)) → Sl w' w'.heap.size 1 A7 ts.length (ts.map (Value.int .i64)) →
      Calls Try.prog 9 #[.agg (ints old), .agg (ints now), .slice A3 ps.length c3, .slice A7 ts.length c7] w' fun e w'' => (∃ v, e = .returned v ∧ NR B X G ok v w'') ∧ Below w'.heap.size w' w'') := Lib.hid fun B A3 A7 c3 c7 w' hB h1 h2 => by
    refine (next_any old now ps ts A3 A7 c3 c7 w' HLO.out HLN.out HBN.out h1 h2 hbig).mono fun e w'' h => ?_
    rw [hX, hG, hok]
    exact nextR_nr h B hB
  have RXA : Hid (∀ w', Sl w' w'.heap.size 1 Ap ps.length (ps.map (Value.int .i64)) → Sl w' w'.heap.size 1 At ts.length (ts.map (Value.int .i64)) →
      Calls Try.prog 11 #[.agg (ints old), .agg (ints now), .slice Ap ps.length cp, .slice At ts.length ct] w' fun e w'' => (∃ v, e = .returned v ∧ NR w'.heap.size X G ok v w'') ∧ Below w'.heap.size w' w'') := Lib.hid fun w' h1 h2 => by
    refine (rnext_any old now ps ts Ap At cp ct w' HLO.out HLN.out HBN.out h1 h2 hbig).mono fun e w'' h => ?_
    rw [hX, hG, hok]
    exact nextR_nr h _ (Nat.le_refl _)
  clear hX hG hok HBN
  by_cases h50 : ps.length ≤ 50 ∧ ts.length ≤ 50
  · obtain ⟨h1, h2⟩ := h50
    have h1I : (ps.length : Int) ≤ 50 := by omega
    have h2I : (ts.length : Int) ≤ 50 := by omega
    go_enter Try.func3, Try.ntmps3
    go_wp2_with (first
      | ((with_reducible show wpList _ _ _ (⟨some 4, _, _, _, _, _⟩ :: _) _ _); refine wpList_box_ino rfl _ rfl HLO.out rfl ?_; intro w1 hr1 hb1 hlt1)
      | ((with_reducible show wpList _ _ _ (⟨some 5, _, _, _, _, _⟩ :: _) _ _); refine wpList_box_ino rfl _ rfl HLN.out rfl ?_; intro w2 hr2 hb2 hlt2))
    have R4 := Lib.hid (hr1.below hb2 hlt1)
    have R5 := Lib.hid hr2
    have HB4 : Hid (w.heap.size < w2.heap.size) := Lib.hid (Nat.lt_of_lt_of_le hlt1 (Nat.le_of_lt hlt2))
    have HB5 := Lib.hid hlt2
    have HBA := Lib.hid (hb1.trans (hb2.mono hb1.size))
    have HPA := Lib.hid (HP0.out.on (Nat.le_refl _) HBA.out)
    have HTA := Lib.hid (HT0.out.on (Nat.le_refl _) HBA.out)
    clear hr1 hb1 hlt1 hr2 hb2 hlt2
    have NX : Hid (∀ A3 A7 c3 c7 w', Below w2.heap.size w2 w' → Sl w' w'.heap.size 1 A3 ps.length (ps.map (Value.int .i64)) → Sl w' w'.heap.size 1 A7 ts.length (ts.map (Value.int .i64)) →
        Calls Try.prog 9 #[.agg (ints old), .agg (ints now), .slice A3 ps.length c3, .slice A7 ts.length c7] w' fun e w'' => (∃ v, e = .returned v ∧ NR w2.heap.size X G ok v w'') ∧ Below w'.heap.size w' w'') :=
      Lib.hid fun A3 A7 c3 c7 w' hk => NXA.out _ A3 A7 c3 c7 w' hk.size
    have Ips : Hid (∀ w', Below w2.heap.size w2 w' → Calls Try.prog 10 #[.slice Ap ps.length cp] w' fun e w'' => ∃ A c, e = .returned (.slice A ps.length c) ∧ Sl w'' w''.heap.size 1 A ps.length (ps.map (Value.int .i64)) ∧ Below w'.heap.size w' w'') :=
      Lib.hid fun w' hk => ints_any Ap ps cp w' (HPA.out.on (Nat.le_refl _) hk) hcp (by omega)
    have Its : Hid (∀ w', Below w2.heap.size w2 w' → Calls Try.prog 10 #[.slice At ts.length ct] w' fun e w'' => ∃ A c, e = .returned (.slice A ts.length c) ∧ Sl w'' w''.heap.size 1 A ts.length (ts.map (Value.int .i64)) ∧ Below w'.heap.size w' w'') :=
      Lib.hid fun w' hk => ints_any At ts ct w' (HTA.out.on (Nat.le_refl _) hk) hct (by omega)
    obtain ⟨b4, hb4⟩ : ∃ b, b = w.heap.size := ⟨_, rfl⟩
    have HE4 := Lib.hid hb4
    rw [← hb4] at R4 HB4 ⊢
    clear hb4
    obtain ⟨b5, hb5⟩ : ∃ b, b = w1.heap.size := ⟨_, rfl⟩
    rw [← hb5] at R5 HB5 ⊢
    clear hb5
    refine wp_region_relyG w2.heap.size (Nat.le_refl _) (by kernel_rfl) (fun d u w' => match d with
      | 9 => True
      | 10 => GS w2.heap.size G u w'
      | 11 => u = (.bool ok : Value)
      | 24 => NR w2.heap.size X G ok u w'
      | 25 => u = (.agg (ints old) : Value)
      | 26 => u = (.agg (ints now) : Value)
      | 27 => u = (.slice Ap ps.length cp : Value)
      | 28 => IS ps u w'
      | 29 => u = (.slice At ts.length ct : Value)
      | 30 => IS ts u w'
      | 31 => NR w2.heap.size X G ok u w'
      | 32 => u = (.agg (ints X) : Value)
      | 33 => GS w2.heap.size G u w'
      | 34 => u = (.bool ok : Value)
      | _ => True) 60 rfl (by decide +kernel) [10, 11] (PV 9 11 12 w2.heap.size X) (PV.start _) ?_ ?_
    · refine AllSteps.cons (StepG.of rfl (fun a w' K hl hK => ?_) (fun L a w w' v hp hts hls hk hat => PV.keep hp hk (by decide) (by decide) (by decide))) ?_
      · have h4 : a.eval (.tmp 4) = (.pointer (some ⟨b4, 0, none⟩) : Value) := hl.old 4 rfl
        exact wp_load_ino rfl (R4.out.kept hl.kept HB4.out) HLO.out h4 (hK _ _ (Kept.refl _) rfl)
      refine AllSteps.cons (StepG.of rfl (fun a w' K hl hK => ?_) (fun L a w w' v hp hts hls hk hat => PV.keep hp hk (by decide) (by decide) (by decide))) ?_
      · have h5 : a.eval (.tmp 5) = (.pointer (some ⟨b5, 0, none⟩) : Value) := hl.old 5 rfl
        exact wp_load_ino rfl (R5.out.kept hl.kept HB5.out) HLN.out h5 (hK _ _ (Kept.refl _) rfl)
      refine AllSteps.cons (StepG.move _ rfl rfl (fun a w' hl => hl.old 2 rfl) (fun L a w w' v hp hts hls hk hat => PV.keep hp hk (by decide) (by decide) (by decide))) ?_
      refine AllSteps.cons (StepG.of rfl (fun a w' K hl hK => ?_) (fun L a w w' v hp hts hls hk hat => PV.keep hp hk (by decide) (by decide) (by decide))) ?_
      · obtain ⟨_, _, _, h27⟩ := hl.dep 2 27 rfl rfl
        replace h27 : a.eval (.tmp 27) = _ := h27
        refine wp_call rfl Try.func10 rfl rfl #[.slice Ap ps.length cp] (by simp [h27]) ?_
        refine (Ips.out w' hl.kept).mono ?_
        rintro e w7 ⟨A7, c7, rfl, hs7, hb7⟩
        exact ⟨_, rfl, hK _ _ hb7 ⟨A7, c7, rfl, hs7⟩⟩
      refine AllSteps.cons (StepG.move _ rfl rfl (fun a w' hl => hl.old 3 rfl) (fun L a w w' v hp hts hls hk hat => PV.keep hp hk (by decide) (by decide) (by decide))) ?_
      refine AllSteps.cons (StepG.of rfl (fun a w' K hl hK => ?_) (fun L a w w' v hp hts hls hk hat => PV.keep hp hk (by decide) (by decide) (by decide))) ?_
      · obtain ⟨_, _, _, h29⟩ := hl.dep 4 29 rfl rfl
        replace h29 : a.eval (.tmp 29) = _ := h29
        refine wp_call rfl Try.func10 rfl rfl #[.slice At ts.length ct] (by simp [h29]) ?_
        refine (Its.out w' hl.kept).mono ?_
        rintro e w7 ⟨A7, c7, rfl, hs7, hb7⟩
        exact ⟨_, rfl, hK _ _ hb7 ⟨A7, c7, rfl, hs7⟩⟩
      refine AllSteps.cons (StepG.of rfl (fun a w' K hl hK => ?_) (fun L a w w' v hp hts hls hk hat => PV.keep hp hk (by decide) (by decide) (by decide))) ?_
      · obtain ⟨_, _, _, h25⟩ := hl.dep 0 25 rfl rfl
        replace h25 : a.eval (.tmp 25) = _ := h25
        obtain ⟨_, _, _, h26⟩ := hl.dep 1 26 rfl rfl
        replace h26 : a.eval (.tmp 26) = _ := h26
        obtain ⟨_, wA, hkA, A3x, c3x, h28, hs28⟩ := hl.dep 3 28 rfl rfl
        obtain ⟨_, wB, hkB, A7x, c7x, h30, hs30⟩ := hl.dep 5 30 rfl rfl
        refine wp_call rfl Try.func9 rfl rfl #[.agg (ints old), .agg (ints now), .slice A3x ps.length c3x, .slice A7x ts.length c7x] (by simp [h25, h26, h28, h30]) ?_
        refine (NX.out A3x A7x c3x c7x w' hl.kept (hs28.on (Nat.le_refl _) hkA) (hs30.on (Nat.le_refl _) hkB)).mono ?_
        rintro e w7 ⟨⟨v7, rfl, h7⟩, hb7⟩
        exact ⟨_, rfl, hK _ _ hb7 h7⟩
      refine AllSteps.cons (StepG.move _ rfl rfl (fun a w' hl => let ⟨_, _, hk, h⟩ := hl.dep 6 31 rfl rfl; NR.kept h hk) (fun L a w w' v hp hts hls hk hat => PV.keep hp hk (by decide) (by decide) (by decide))) ?_
      refine AllSteps.cons (StepG.of rfl (fun a w' K hl hK => ?_) (fun L a w w' v hp hts hls hk hat => PV.keep hp hk (by decide) (by decide) (by decide))) ?_
      · obtain ⟨_, w1, hk1, ⟨A8x, c8x, h24, ho24⟩⟩ := hl.dep 7 24 rfl rfl
        refine wp_val (.agg (ints X)) ?_ (hK _ _ (Kept.refl _) rfl)
        clear hl hK
        generalize a.eval = ρ at *
        simp [execOp, go_sem, h24]
      refine AllSteps.cons (StepG.of rfl (fun a w' K hl hK => ?_) (fun L a w w' v hp hts hls hk hat => PV.keep hp hk (by decide) (by decide) (by decide))) ?_
      · obtain ⟨_, w1, hk1, ⟨A8x, c8x, h24, ho24⟩⟩ := hl.dep 7 24 rfl rfl
        refine wp_val (.slice A8x G.length c8x) ?_ (hK _ _ (Kept.refl _) (GS.kept ⟨A8x, c8x, rfl, ho24⟩ hk1))
        clear hl hK
        generalize a.eval = ρ at *
        simp [execOp, go_sem, h24]
      refine AllSteps.cons (StepG.of rfl (fun a w' K hl hK => ?_) (fun L a w w' v hp hts hls hk hat => PV.keep hp hk (by decide) (by decide) (by decide))) ?_
      · obtain ⟨_, w1, hk1, ⟨A8x, c8x, h24, ho24⟩⟩ := hl.dep 7 24 rfl rfl
        refine wp_val (.bool ok) ?_ (hK _ _ (Kept.refl _) rfl)
        clear hl hK
        generalize a.eval = ρ at *
        simp [execOp, go_sem, h24]
      refine AllSteps.cons (StepG.raw rfl fun L a w' K hl hp hls hts hnl hw hwt hK => ?_) ?_
      · refine wp_alloc_ino rfl fun w9 hiv hb => hK _ _ (Below.mono hb (Below.size hl.kept)) (fun _ _ _ _ hs => hs.kept hb) trivial ?_
        have h12 : L.getD 12 false = false := by
          cases h : L.getD 12 false
          · rfl
          · have hc := hwt 12 _ ⟨11, .data⟩ h rfl (by simp) rfl
            rw [Array.getD_eq_getD_getElem?] at hc hnl
            cases hx : L[11]? with
            | none => rw [hx] at hc; cases hc
            | some b => rw [hx] at hc hnl; simp at hc hnl; rw [hc] at hnl; cases hnl
        intro _
        refine ⟨w'.heap.size, put_same (by rw [hts]; exact (by decide : 9 < 60)), Below.size hl.kept, ?_⟩
        rw [set_other (by decide), h12]
        exact hiv
      refine AllSteps.cons (StepG.raw rfl fun L a w' K hl hp hls hts hnl hw hwt hK => ?_) ?_
      · obtain ⟨_, _, _, h32⟩ := hl.dep 8 32 rfl rfl
        replace h32 : a.eval (.tmp 32) = _ := h32
        obtain ⟨b9, h9, hb9, hiv⟩ := hp (hw ⟨11, .data⟩ (by simp) rfl)
        replace h9 : a.eval (.tmp 9) = _ := h9
        have h12 : L.getD 12 false = false := by
          rw [Array.getD_eq_getD_getElem?] at hnl ⊢
          cases hx : L[12]? with
          | none => rfl
          | some b => rw [hx] at hnl; simp at hnl; rw [hnl]; rfl
        rw [h12] at hiv
        refine wp_store_ino rfl hiv zIno_len HX.out h9 h32 fun w9 hiv9 hon => hK _ _ (hon.low _ hb9) (fun d u hne hlv ⟨w8, hk8, h8⟩ => ⟨w9, Kept.refl _, ?_⟩) trivial ?_
        rotate_left 1
        · intro hl11
          rw [set_other (by decide)] at hl11
          refine ⟨b9, by rw [put_other (by decide)]; exact h9, hb9, ?_⟩
          rw [set_same (by rw [hls]; exact (by decide : 12 < 15))]
          exact hiv9
        have hlb := hlv.reckoned [0, 1, 2, 3, 4, 5, 6, 7, 8, 11] (by simp only [List.mem_cons, List.not_mem_nil, or_false]; rintro j (rfl | rfl | rfl | rfl | rfl | rfl | rfl | rfl | rfl | rfl) <;> exact hw ⟨_, .phase⟩ (by simp) rfl) hls
        by_cases h24 : d = 24
        · subst h24; exact NR.only (NR.kept (show NR w2.heap.size X G ok u w8 from h8) hk8) hiv.2 hon
        by_cases h33 : d = 33
        · subst h33; exact GS.only (GS.kept (show GS w2.heap.size G u w8 from h8) hk8) hiv.2 hon
        by_cases h10 : d = 10
        · subst h10; exact GS.only (GS.kept (show GS w2.heap.size G u w8 from h8) hk8) hiv.2 hon
        by_cases h28 : d = 28
        · subst h28; exact absurd hlb (by decide +kernel)
        by_cases h30 : d = 30
        · subst h30; exact absurd hlb (by decide +kernel)
        by_cases h31 : d = 31
        · subst h31; exact absurd hlb (by decide +kernel)
        clear hl hK hlv hlb hne hw hwt hp
        dsimp only at h8 ⊢
        split at h8 <;> first | exact h8 | exact absurd rfl h24 | exact absurd rfl h33 | exact absurd rfl h10 | exact absurd rfl h28 | exact absurd rfl h30 | exact absurd rfl h31 | (split <;> first | trivial | (exfalso; simp_all))
      refine AllSteps.cons (StepG.assign _ rfl rfl (fun a w' hl => let ⟨_, _, hk, h⟩ := hl.dep 9 33 rfl rfl; GS.kept h hk) (fun L a w w' v hp hts hls hk hat => PV.keep hp hk (by decide) (by decide) (by decide))) ?_
      refine AllSteps.cons (StepG.assign _ rfl rfl (fun a w' hl => let ⟨_, _, _, h⟩ := hl.dep 10 34 rfl rfl; h) (fun L a w w' v hp hts hls hk hat => PV.keep hp hk (by decide) (by decide) (by decide))) ?_
      exact AllSteps.nil
    · intro f w3 L hk3 hf hall hpv
      obtain ⟨wA, hkA, A10, c10, h10, ho10⟩ := hf 10 rfl rfl
      obtain ⟨_, _, h11⟩ := hf 11 rfl rfl
      replace h11 : f 11 = .bool ok := h11
      obtain ⟨b9, h9, hb9, hiv⟩ := hpv (hall 11 (by decide))
      rw [hall 12 (by decide), if_pos rfl] at hiv
      simp only [fill, dsts, List.filterMap_cons, List.filterMap_nil, List.foldl_cons, List.foldl_nil, Act.put, List.setIfInBounds_toArray, List.set_cons_succ, List.set_cons_zero] at h9
      replace h9 : f 9 = .pointer (some ⟨b9, 0, none⟩) := h9
      have hg10 := own_keptN ho10 hkA
      have HG10 := Lib.hid hg10
      have HIV := Lib.hid hiv
      have HB3 := Lib.hid (HBA.out.trans (hk3.mono HBA.out.size))
      have R43 := Lib.hid (R4.out.below hk3 HB4.out)
      have R53 := Lib.hid (R5.out.below hk3 HB5.out)
      have HB9 := Lib.hid hb9
      have RX := Lib.hid (RXA.out w3 (HPA.out.on (Nat.le_refl _) hk3) (HTA.out.on (Nat.le_refl _) hk3))
      clear hall hpv hf hkA ho10 hg10 hiv hk3 hb9
      simp only [Exit.then, fill, dsts, List.filterMap_cons, List.filterMap_nil, List.foldl_cons, List.foldl_nil, Act.put, h9, h10, h11, List.setIfInBounds_toArray, List.set_cons_succ, List.set_cons_zero]
      clear h9 h10 h11
      go_wp2_with (first
        | ((with_reducible show wpList _ _ _ (⟨some 36, _, _, _, _, _⟩ :: _) _ _); refine wpList_load_ino rfl _ rfl R43.out HLO.out rfl ?_)
        | ((with_reducible show wpList _ _ _ (⟨some 37, _, _, _, _, _⟩ :: _) _ _); refine wpList_load_ino rfl _ rfl R53.out HLN.out rfl ?_))
      refine RX.out.mono ?_
      rintro e w4 ⟨⟨v4, rfl, A13, c13, rfl, ho13⟩, hb4x⟩
      have HO13 := Lib.hid ho13
      have HB4x := Lib.hid (HB3.out.trans (hb4x.mono HB3.out.size))
      have HIV4 := Lib.hid (HIV.out.kept hb4x)
      have HG4 := Lib.hid (own_keptN HG10.out hb4x)
      clear ho13 hb4x
      go_wp2_with (first
        | ((with_reducible show wpList _ _ _ (⟨some 12, _, _, _, _, _⟩ :: _) _ _); refine wpList_alloc_ino rfl rfl ?_; intro w6 hr6 hb6 hlt6)
        | ((with_reducible show wpList _ _ _ (⟨none, Op.store 24 (.tmp 12) _, _, _, _, _⟩ :: _) _ _); refine wpList_store_ino rfl _ _ rfl hr6 zIno_len HX.out rfl rfl ?_; intro w7 hr7 ho7; have hb9x := ((HIV4.out.kept hb6).1).only ho7 (Nat.ne_of_lt HIV4.out.lt))
        | ((with_reducible show wpList _ _ _ (⟨some 44, _, _, _, _, _⟩ :: _) _ _); refine wpList_load_ino rfl _ rfl hb9x HX.out rfl ?_)
        | ((with_reducible show wpList _ _ _ (⟨some 45, _, _, _, _, _⟩ :: _) _ _); refine wpList_load_ino rfl _ rfl hr7 HX.out rfl ?_)
        | ((with_reducible show wpList _ _ _ (⟨some 46, _, _, _, _, _⟩ :: _) _ _); refine wpList_eql_ino rfl rfl X X rfl rfl HX.out HX.out ?_; rw [beq_self_eq_true]))
      have HB7 := Lib.hid (ho7.below (HB4x.out.trans (hb6.mono HB4x.out.size)) HB4x.out.size)
      have hk47 : Below w4.heap.size w4 w7 := ho7.below hb6 (Nat.le_refl _)
      have s1 := (Sl.own HG4.out).on (Nat.le_refl _) hk47
      have s2 := (Sl.own HO13.out).on (Nat.le_refl _) hk47
      have hz4 := HB4x.out.size
      have hz7 := hk47.size
      have SI := Lib.hid (same_any A10 A13 G G c10 c13 w7 s1 s2 (by omega) (by omega))
      rw [beq_self_eq_true] at SI
      clear s1 s2 hk47 hr6 hb6 hlt6 hr7 ho7 hb9x
      refine SI.out.mono ?_
      rintro e w8 ⟨rfl, hb8⟩
      have HB8 := Lib.hid (HB7.out.trans (hb8.mono HB7.out.size))
      clear hb8 SI
      cases ok
      all_goals
        go_wp2_with fail
        refine (awake_any _).mono ?_
        rintro e w9 ⟨rfl, hb9⟩
        have HBZ := Lib.hid (HB8.out.trans (hb9.mono HB8.out.size))
        clear hb9
        go_wp2_with fail
        go_ret
        exact ⟨rfl, HBZ.out⟩
  · have hcase : (50 < (ps.length : Int)) ∨ ((ps.length : Int) ≤ 50 ∧ 50 < (ts.length : Int)) := by omega
    clear h50
    rcases hcase with h1 | ⟨h1, h2⟩
    all_goals
      go_enter Try.func3, Try.ntmps3
      go_wp2_with (first
        | ((with_reducible show wpList _ _ _ (⟨some 4, _, _, _, _, _⟩ :: _) _ _); refine wpList_box_ino rfl _ rfl HLO.out rfl ?_; intro w1 hr1 hb1 hlt1)
        | ((with_reducible show wpList _ _ _ (⟨some 5, _, _, _, _, _⟩ :: _) _ _); refine wpList_box_ino rfl _ rfl HLN.out rfl ?_; intro w2 hr2 hb2 hlt2))
      have HBA := Lib.hid (hb1.trans (hb2.mono hb1.size))
      clear hr1 hb1 hlt1 hr2 hb2 hlt2
      refine (awake_any _).mono ?_
      rintro e w9 ⟨rfl, hb9⟩
      have HBZ := Lib.hid (HBA.out.trans (hb9.mono HBA.out.size))
      clear hb9
      go_wp2_with fail
      go_ret
      exact ⟨rfl, HBZ.out⟩
end Go.Proofs.Ytgfhepfikphliaa.Al
