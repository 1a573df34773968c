/-
  span.Norm: the list in order of all places.
-/
import Derived.Test.YthdbllcpfajjmaaSort
import Derived.Test.YthdbllcpfajjmaaJumpsN
import Derived.WalkMore
import Derived.Outline
import Derived.Lib.SliceRun
namespace Go.Proofs.Ythdbllcpfajjmaa.Sp
open Fl Go.RowKit Ga Wd Jm
set_option linter.unusedVariables false

theorem insertion_none (p : Option Addr) (c : Nat) (fv : Value) (w : World) : Calls Try.prog 38 #[.slice p 0 c, .int .i64 0, .int .i64 0, fv] w fun e w' => e = .returned (.tuple #[]) ∧ w' = w := by
  go_enter Try.func38, Try.ntmps38
  go_wp2
  refine wp_loop_rounds 1 ?_
  rw [rounds_succ]
  go_wp2
  go_end0
  exact ⟨rfl, rfl⟩
theorem pdq_none (p : Option Addr) (c : Nat) (lim : Int) (fv : Value) (w : World) : Calls Try.prog 33 #[.slice p 0 c, .int .i64 0, .int .i64 0, .int .i64 lim, fv] w fun e w' => e = .returned (.tuple #[]) ∧ w' = w := by
  go_enter Try.func33, Try.ntmps33
  go_wp2
  refine wp_loop_rounds 1 ?_
  rw [rounds_succ]
  go_wp2_with (go_at_call 38; refine (insertion_none _ _ _ _).mono ?_; rintro e w' ⟨rfl, rfl⟩)
  (try simp only [Exit.inBlock, Exit.then]); refine bodyPost_ret (results_none rfl _ _ _) rfl ?_
  exact ⟨rfl, rfl⟩
theorem sort_none (p : Option Addr) (c : Nat) (fv : Value) (w : World) : Calls Try.prog 26 #[.slice p 0 c, fv] w fun e w' => e = .returned (.tuple #[]) ∧ w' = w := by
  have hl : ∀ W, Calls Try.prog 34 #[.int .u64 0] W fun e w' => e = .returned (.int .i64 (Lib.bitLen 0 : Nat)) ∧ w' = W := fun W => by
    have h := Any.bits_Len (SlLaysF0.n15.bits (P := Try.prog) (ρ := Sh.sortC_ren) { Sh.sortC with }) 0 W (by omega) (by omega)
    exact h
  go_enter Try.func26, Try.ntmps26
  go_wp2_with (first | (go_at_call 34; refine (hl _).mono ?_; rintro e w' ⟨rfl, rfl⟩) | (go_at_call 33; refine (pdq_none _ _ _ _ _).mono ?_; rintro e w' ⟨rfl, rfl⟩))
  go_end0
  exact ⟨rfl, rfl⟩
theorem nf_nil : nf [] = [] := by
  unfold nf
  rw [List.mergeSort_nil]
  rfl
theorem cv_one : ∀ l : Ls, ∀ u ∈ l.map cv, u.oneCell' = true := fun l u hu => by
  obtain ⟨_, _, rfl⟩ := List.mem_map.1 hu
  rfl
/-- a slice of stretches, in new memory where there is one -/
def CloneR (w : World) (l : Ls) (e : Ending) (w' : World) : Prop :=
  ∃ A c, e = .returned (.slice A l.length c) ∧ (0 < l.length → w'.ownsRow w.heap.size 22 1 (.slice A l.length c) l.length (l.map cv)) ∧ Sl w' w'.heap.size 1 A l.length (l.map cv) ∧ l.length ≤ c ∧ c ≤ maxLen ∧ Below w.heap.size w w'
theorem clone_any (A : Option Addr) (l : Ls) (c : Nat) (w : World) (hs : Sl w w.heap.size 1 A l.length (l.map cv)) (hk : l.length ≤ 1000000) :
    Calls Try.prog 25 #[.slice A l.length c] w (CloneR w l) := by
  obtain ⟨i0, hi, hz0, hz1, hz2⟩ := info_parts infoC
  have q22 : ∀ (w : World) (a : Option Addr) (n c n' c' : Nat), (binOp .eql 32 (.slice a n c) (.slice none n' c')).run Try.prog w = .ok (.bool a.isNone) w := fun w a n c n' c' => Lib.run_eql_slice_nil w _ _ a n c n' c' Try.underlying32
  cases A with
  | none =>
    have h0 : l.length = 0 := by
      rcases Nat.eq_zero_or_pos l.length with h | h
      · exact h
      · obtain ⟨ad, e, _⟩ := hs.2 h
        cases e
    have hl : l = [] := List.eq_nil_of_length_eq_zero h0
    subst hl
    go_enter Try.func25, Try.ntmps25
    go_wp2_with fail
    go_ret
    exact ⟨none, 0, rfl, fun h => absurd h (Nat.lt_irrefl 0), Sl.nil _, Nat.le_refl _, by simp [maxLen], Below.refl _ _⟩
  | some ad =>
    have HS := Lib.hid hs
    clear hs
    go_enter Try.func25, Try.ntmps25
    go_wp2_with (at_builtin; refine wpList_append_mine rfl _ (.tmp 6) _ _ rfl w.heap.size 22 i0 (.complex .f64 0 0) 1 16 hz1 hz2 rfl (by decide) _ 0 [] rfl (Mine.full (Sl.nil _) (by simp [maxLen])) _ l.length (l.map cv) rfl (Gives.slice Try.underlying32 hi hz0 (by rw [hz1]; exact HS.out.on (Nat.le_refl _) ((Below.refl _ _).alloc (Nat.le_refl _) _)) (cv_one l)) (by simp only [maxLen]; omega) (by omega) (by simp) ?_; intro A3 c3 w3 hm3 hg3 hb3 hat3 hown3)
    go_ret
    rw [List.nil_append] at hm3 hown3
    obtain ⟨A4, c4, hv, hc4, hm4, hs4⟩ := hm3.form
    injection hv with hv1 hv2 hv3
    subst hv1; subst hv3
    rw [Nat.zero_add] at hc4 hs4 hown3
    exact ⟨A3, c3, rfl, fun h => hown3 (.inl h), hs4, hc4, hm4, ((Below.refl w.heap.size w).alloc (Nat.le_refl _) _).trans hb3⟩
/-- at the first label -/
def AtNext (G d : Ls) (n : Nat) (A0 A1 : Option Addr) (c0 c1 : Nat) (W : World) (x : Act) (w' : World) : Prop := ∃ (i : Nat) (m : Ls) (v : Value) (u1 u2 u3 u4 u5 u9 u10 u11 u12 u13 u14 u15 u16 u17 u18 u19 u20 u21 u22 u23 u24 u25 u26 u27 u28 u29 u30 u31 u32 u33 u34 u35 u36 u37 u38 u39 u40 u41 u42 u43 u44 u45 u46 u47 u48 u49 u50 u51 u52 u53 u54 u55 u56 u57 u58 u59 u60 u61 u62 u63 u64 u65 : Value), i ≤ n ∧ G = m ++ normM (d.drop i) ∧ m.length ≤ i ∧ w'.ownsRow W.heap.size 22 1 v m.length (m.map cv) ∧ Below W.heap.size W w' ∧ x = { tmps := #[.slice A0 n c0, u1, u2, u3, u4, u5, .slice A1 n c1, v, .int .i64 (i : Int), u9, u10, u11, u12, u13, u14, u15, u16, u17, u18, u19, u20, u21, u22, u23, u24, u25, u26, u27, u28, u29, u30, u31, u32, u33, u34, u35, u36, u37, u38, u39, u40, u41, u42, u43, u44, u45, u46, u47, u48, u49, u50, u51, u52, u53, u54, u55, u56, u57, u58, u59, u60, u61, u62, u63, u64, u65], defers := [] }
/-- at the second label -/
def AtGrow (G d : Ls) (n : Nat) (A0 A1 : Option Addr) (c0 c1 : Nat) (W : World) (x : Act) (w' : World) : Prop := ∃ (i : Nat) (m : Ls) (v : Value) (a b : Int) (u1 u2 u3 u4 u5 u11 u12 u13 u14 u15 u16 u17 u18 u19 u20 u21 u22 u23 u24 u25 u26 u27 u28 u29 u30 u31 u32 u33 u34 u35 u36 u37 u38 u39 u40 u41 u42 u43 u44 u45 u46 u47 u48 u49 u50 u51 u52 u53 u54 u55 u56 u57 u58 u59 u60 u61 u62 u63 u64 u65 : Value), i < n ∧ G = m ++ grow a b (d.drop (i + 1)) ∧ 0 ≤ a ∧ a < b ∧ b ≤ 33554432 ∧ m.length ≤ i ∧ w'.ownsRow W.heap.size 22 1 v m.length (m.map cv) ∧ Below W.heap.size W w' ∧ x = { tmps := #[.slice A0 n c0, u1, u2, u3, u4, u5, .slice A1 n c1, v, .int .i64 (i : Int), .int .i64 a, .int .i64 b, u11, u12, u13, u14, u15, u16, u17, u18, u19, u20, u21, u22, u23, u24, u25, u26, u27, u28, u29, u30, u31, u32, u33, u34, u35, u36, u37, u38, u39, u40, u41, u42, u43, u44, u45, u46, u47, u48, u49, u50, u51, u52, u53, u54, u55, u56, u57, u58, u59, u60, u61, u62, u63, u64, u65], defers := [] }
/-- what is known of the sorted list -/
def Ctx (w W : World) (d : Ls) (n : Nat) (A1 : Option Addr) : Prop := AllSt d ∧ d.length = n ∧ Sl W W.heap.size 1 A1 n (d.map cv) ∧ Below w.heap.size w W
def AtN (G : Ls) (n : Nat) (A0 : Option Addr) (c0 : Nat) (w : World) (x : Act) (w' : World) : Prop := ∃ d A1 c1 W, Ctx w W d n A1 ∧ AtNext G d n A0 A1 c0 c1 W x w'
def AtG (G : Ls) (n : Nat) (A0 : Option Addr) (c0 : Nat) (w : World) (x : Act) (w' : World) : Prop := ∃ d A1 c1 W, Ctx w W d n A1 ∧ AtGrow G d n A0 A1 c0 c1 W x w'
/-- a list of stretches that a call hands back -/
def NormR (w : World) (l : Ls) (e : Ending) (w' : World) : Prop :=
  ∃ A c, e = .returned (.tuple #[.slice A l.length c, .bool true]) ∧ Sl w' w'.heap.size 1 A l.length (l.map cv) ∧ l.length ≤ c ∧ c ≤ maxLen ∧ Below w.heap.size w w'
theorem norm_drop {d : Ls} {i : Nat} {p : Int × Int} (h : d[i]? = some p) : normM (d.drop i) = grow p.1 (p.1 + p.2) (d.drop (i + 1)) := by
  have hlt : i < d.length := (List.getElem?_eq_some_iff.1 h).1
  have he : d[i] = p := (List.getElem?_eq_some_iff.1 h).2
  rw [List.drop_eq_getElem_cons hlt, he]
  rfl
theorem grow_on {d : Ls} {i : Nat} {q : Int × Int} (h : d[i]? = some q) {a b : Int} (hq : q.1 ≤ b) : grow a b (d.drop i) = grow a (max b (q.1 + q.2)) (d.drop (i + 1)) := by
  have hlt : i < d.length := (List.getElem?_eq_some_iff.1 h).1
  have he : d[i] = q := (List.getElem?_eq_some_iff.1 h).2
  rw [List.drop_eq_getElem_cons hlt, he]
  show (if q.1 ≤ b then _ else _) = _
  rw [if_pos hq]
theorem grow_off {d : Ls} {i : Nat} {q : Int × Int} (h : d[i]? = some q) {a b : Int} (hq : ¬ q.1 ≤ b) : grow a b (d.drop i) = (a, b - a) :: normM (d.drop i) := by
  have hlt : i < d.length := (List.getElem?_eq_some_iff.1 h).1
  have he : d[i] = q := (List.getElem?_eq_some_iff.1 h).2
  rw [norm_drop h, List.drop_eq_getElem_cons hlt, he]
  show (if q.1 ≤ b then _ else _) = _
  rw [if_neg hq]
theorem grow_end {d : Ls} {i : Nat} (h : d.length ≤ i) (a b : Int) : grow a b (d.drop i) = (a, b - a) :: normM (d.drop i) := by
  rw [List.drop_of_length_le h]
  rfl

set_option maxRecDepth 100000 in
set_option maxHeartbeats 1600000 in
theorem norm_any (A0 : Option Addr) (l : Ls) (c0 : Nat) (w : World) (hl : AllSt l) (hs : Sl w w.heap.size 1 A0 l.length (l.map cv)) (hk : l.length ≤ 1000) :
    Calls Try.prog 14 #[.slice A0 l.length c0] w (NormR w (nf l)) := by
  obtain ⟨i0, hi, hz0, hz1, hz2⟩ := info_parts infoC
  have HL := Lib.hid hl
  have HS := Lib.hid hs
  have CLN := Lib.hid (clone_any A0 l c0 w hs (by omega))
  obtain ⟨G, hG⟩ : ∃ G, G = nf l := ⟨_, rfl⟩
  have HGE := Lib.hid hG
  rw [← hG]
  obtain ⟨n, hn⟩ : ∃ n, n = l.length := ⟨_, rfl⟩
  have HN := Lib.hid hn
  rw [← hn] at hk HS CLN
  rw [← hn]
  unfold CloneR at CLN
  clear hl hs hG hn
  go_enter Try.func14, Try.ntmps14
  go_wp2_with fail
  refine wp_scope_jumpsN 0 1 (AtN G n A0 c0 w) (AtG G n A0 c0 w) (fun x _ => n - (intOf (x.tmps.getD 8 undef)).toNat) rfl rfl ?_ ?_ ?_
  · go_wp2_with fail
    go_loop [15] (fun iv => ∃ k : Nat, k ≤ n ∧ iv = .int .i64 (k : Int)) (fun iv => n - (intOf iv).toNat)
    case atStart => exact ⟨0, by omega, rfl⟩
    case round =>
      obtain ⟨k, hk2, rfl⟩ := hrel
      by_cases hlt : k < n
      · have hltI : (k : Int) < (n : Int) := by omega
        have hk0 : (0 : Int) ≤ (k : Int) := by omega
        obtain ⟨p, hp⟩ : ∃ p, l[k]? = some p := ⟨_, List.getElem?_eq_getElem (by have := HN.out; omega)⟩
        have MY := Lib.hid (fun w => may_yes (HL.out p (List.mem_of_getElem? hp)) w)
        obtain ⟨b0, off, rfl, hb0, hcc⟩ := HS.out.at (by omega) (by decide)
        have hcell : w.cell? ⟨b0, off + k, none⟩ = some (.complex .f64 (fz p.1) (fz p.2)) := hcc k _ (by rw [List.getElem?_map, hp]; rfl)
        clear hcc hp
        go_wp2_with fail
        refine (MY.out _).mono ?_
        rintro e w' ⟨rfl, rfl⟩
        go_wp2_with fail
        go_round
        case rel => exact ⟨k + 1, by omega, by go_num⟩
        case measure => simp [intOf]; omega
      · have hge : (n : Int) ≤ (k : Int) := by omega
        go_wp2_with fail
        refine CLN.out.mono ?_
        rintro e w1 ⟨A1, c1, rfl, ho1, hs1, hc1, hcm1, hb1⟩
        have HB1 := Lib.hid hb1
        have HSORT : Hid (Calls Try.prog 26 #[.slice A1 n c1, .func (.func 27) #[] #[]] w1 fun e W => e = .returned (.tuple #[]) ∧ ∃ d : Ls, G = normM d ∧ Ctx w W d n A1) := by
          rcases Nat.eq_zero_or_pos n with h0 | h0
          · refine Lib.hid ?_
            have hl0 : l = [] := List.eq_nil_of_length_eq_zero (by have := HN.out; omega)
            subst h0
            refine (sort_none A1 c1 _ w1).mono ?_
            rintro e W ⟨rfl, rfl⟩
            refine ⟨rfl, [], by rw [HGE.out, hl0]; exact nf_nil, fun p hp => by simp at hp, rfl, Sl.nil _, HB1.out⟩
          · refine Lib.hid ?_
            have ho := ho1 (by have := HN.out; omega)
            rw [← HN.out] at ho
            obtain ⟨g, hg, _⟩ := own_form ho h0
            subst hg
            have hsr := sort_some g c1 l w1 w.heap.size HL.out (by rw [← HN.out]; exact ho) (by have := HN.out; omega) (by have := HN.out; omega)
            rw [← HN.out] at hsr
            refine hsr.mono ?_
            rintro e W ⟨rfl, d, hp, ha, hdl, hsd, hbw⟩
            exact ⟨rfl, d, by rw [HGE.out, nf_of HL.out hp ha], HL.out.perm hp.symm, hdl, hsd, HB1.out.trans (Below.mono hbw (Nat.le_refl _))⟩
        clear ho1 hs1 hb1
        try rw [← HN.out]
        go_wp2_with fail
        refine HSORT.out.mono ?_
        rintro e W ⟨rfl, d, hgd, hctx⟩
        obtain ⟨m, hm⟩ : ∃ m : Ls, m = [] := ⟨_, rfl⟩
        have ho : W.ownsRow W.heap.size 22 1 (.slice none 0 0) m.length (m.map cv) := by rw [hm]; exact World.ownsRow_nil _ _ _ _
        have hbr := Below.refl W.heap.size W
        have hmi : m.length ≤ 0 := by rw [hm]; exact Nat.le_refl _
        have HGN : Hid (G = m ++ normM (d.drop 0)) := Lib.hid (by rw [hgd, hm]; rfl)
        have HMN := Lib.hid hm
        clear hgd hm HSORT CLN HGE HL HS
        have HCTX := Lib.hid hctx
        have HDL := Lib.hid hctx.2.1
        have HDS := Lib.hid hctx.1
        have HD : Hid (∀ w', Below W.heap.size W w' → Sl w' w'.heap.size 1 A1 n (d.map cv)) := Lib.hid fun w' hk => hctx.2.2.1.on (Nat.le_refl _) hk
        have HBR := Lib.hid hbr
        have HO := Lib.hid ho
        clear hctx hbr ho
        go_wp2_with fail
        go_step3
        by_cases hin : 0 < n
        · have hinI : (0 : Int) < (n : Int) := by omega
          have hin0 : (0 : Int) ≤ (0 : Int) := by omega
          have hne : ((0 : Int) == (n : Int)) = false := by simp; omega
          have hA : ∃ b off, A1 = some ⟨b, off, none⟩ := by
            obtain ⟨b, off, e, _⟩ := (HD.out W HBR.out).at (by omega) (by decide)
            exact ⟨b, off, e⟩
          obtain ⟨b0, off, rfl⟩ := hA
          obtain ⟨p, hp⟩ : ∃ p, d[0]? = some p := ⟨_, List.getElem?_eq_getElem (by have := HDL.out; omega)⟩
          have sp := HDS.out p (List.mem_of_getElem? hp)
          have ENp := Lib.hid (fun w => ends_yes sp w)
          have zp := sp
          unfold St at zp
          obtain ⟨yp1, yp2, yp3⟩ := zp
          have hcellp : W.cell? ⟨b0, off, none⟩ = some (.complex .f64 (fz p.1) (fz p.2)) := by
            obtain ⟨b', off', e, hb', hcc⟩ := (HD.out W HBR.out).at (by omega) (by decide)
            injection e with e
            injection e with e1 e2
            subst e1; subst e2
            exact hcc (0) _ (by rw [List.getElem?_map, hp]; rfl)
          have HG : Hid (G = m ++ grow p.1 (p.1 + p.2) (d.drop (1))) := by
            show _ = _
            rw [HGN.out, norm_drop hp]
          clear hp HGN
          by_cases hq2 : 1 < n
          · have hq2I : (1 : Int) < (n : Int) := by omega
            have hq20 : (0 : Int) ≤ (1 : Int) := by omega
            obtain ⟨q, hq⟩ : ∃ p, d[1]? = some p := ⟨_, List.getElem?_eq_getElem (by have := HDL.out; omega)⟩
            have sq := HDS.out q (List.mem_of_getElem? hq)
            have ENq := Lib.hid (fun w => ends_yes sq w)
            have zq := sq
            unfold St at zq
            obtain ⟨yq1, yq2, yq3⟩ := zq
            have hcellq : W.cell? ⟨b0, off + (1), none⟩ = some (.complex .f64 (fz q.1) (fz q.2)) := by
              obtain ⟨b', off', e, hb', hcc⟩ := (HD.out W HBR.out).at (by omega) (by decide)
              injection e with e
              injection e with e1 e2
              subst e1; subst e2
              exact hcc (1) _ (by rw [List.getElem?_map, hq]; rfl)
            by_cases hle : q.1 ≤ p.1 + p.2
            · have HG2 := Lib.hid (HG.out.trans (by rw [grow_on hq hle]))
              clear hq sq HG
              go_wp2_with fail
              refine (ENp.out _).mono ?_
              rintro e w' ⟨rfl, rfl⟩
              go_wp2_with fail
              go_step3
              go_wp2_with fail
              refine (ENq.out _).mono ?_
              rintro e w' ⟨rfl, rfl⟩
              go_wp2_with fail
              go_step3
              exact .inr ⟨rfl, ⟨d, _, c1, W, HCTX.out, ⟨1, m, _, p.1, _, _, _, _, _, _, _, _, _, _, _, _, _, _, _, _, _, _, _, _, _, _, _, _, _, _, _, _, _, _, _, _, _, _, _, _, _, _, _, _, _, _, _, _, _, _, _, _, _, _, _, _, _, _, _, _, _, _, _, _, _, by omega, HG2.out, by omega, by omega, by omega, by omega, HO.out, HBR.out, rfl⟩⟩⟩
            · have hleI : p.1 + p.2 < q.1 := by omega
              have HG2 := Lib.hid (HG.out.trans (by rw [grow_off hq hle, show m ++ (p.1, (p.1 + p.2) - p.1) :: normM (d.drop (1)) = (m ++ [(p.1, (p.1 + p.2) - p.1)]) ++ normM (d.drop (1)) by simp]))
              clear hq sq HG hle
              go_wp2_with fail
              refine (ENp.out _).mono ?_
              rintro e w' ⟨rfl, rfl⟩
              go_wp2_with fail
              go_step3
              have hst : St (p.1) ((p.1 + p.2) - (p.1)) := by unfold St; omega
              have BT := Lib.hid (fun w => between_yes hst w)
              clear hst
              go_wp2_with fail
              refine (ENq.out _).mono ?_
              rintro e w' ⟨rfl, rfl⟩
              go_wp2_with fail
              refine (BT.out _).mono ?_
              rintro e w' ⟨rfl, rfl⟩
              go_wp2_with (at_builtin; refine wpList_append_mine rfl (.tmp 60) (.tmp 64) _ _ rfl W.heap.size 22 i0 (.complex .f64 0 0) 1 16 hz1 hz2 rfl (by decide) _ _ _ rfl (Mine.alloc (.inr HO.out) _) _ 1 [cv ((p.1), (p.1 + p.2) - (p.1))] rfl (Gives.elem Try.underlying32 hi hz0 hz1 _ rfl) (by simp only [maxLen]; omega) (by omega) (by have := HBR.out.size; simp <;> omega) ?_; intro A5 c5 w5 hm5 hg5 hb5 hat5 hown5)
              have ho5 := hown5 (.inl (by decide))
              have HO5 := Lib.hid ho5
              have HB5 := Lib.hid ((HBR.out.alloc HBR.out.size _).trans hb5)
              clear ho5 hown5 hat5 hg5 hm5 hb5
              go_wp2_with fail
              go_step3
              exact .inl ⟨rfl, ⟨d, _, c1, W, HCTX.out, ⟨1, m ++ [(p.1, (p.1 + p.2) - p.1)], _, _, _, _, _, _, _, _, _, _, _, _, _, _, _, _, _, _, _, _, _, _, _, _, _, _, _, _, _, _, _, _, _, _, _, _, _, _, _, _, _, _, _, _, _, _, _, _, _, _, _, _, _, _, _, _, _, _, _, _, _, _, _, by omega, HG2.out, by rw [List.length_append, List.length_singleton]; omega, by simpa using HO5.out, HB5.out, rfl⟩⟩⟩
          · have hq2I : (n : Int) ≤ (1 : Int) := by omega
            have HG2 := Lib.hid (HG.out.trans (by rw [grow_end (by have := HDL.out; omega), show m ++ (p.1, (p.1 + p.2) - p.1) :: normM (d.drop (1)) = (m ++ [(p.1, (p.1 + p.2) - p.1)]) ++ normM (d.drop (1)) by simp]))
            clear HG
            go_wp2_with fail
            refine (ENp.out _).mono ?_
            rintro e w' ⟨rfl, rfl⟩
            go_wp2_with fail
            go_step3
            have hst : St (p.1) ((p.1 + p.2) - (p.1)) := by unfold St; omega
            have BT := Lib.hid (fun w => between_yes hst w)
            clear hst
            go_wp2_with fail
            refine (BT.out _).mono ?_
            rintro e w' ⟨rfl, rfl⟩
            go_wp2_with (at_builtin; refine wpList_append_mine rfl (.tmp 60) (.tmp 64) _ _ rfl W.heap.size 22 i0 (.complex .f64 0 0) 1 16 hz1 hz2 rfl (by decide) _ _ _ rfl (Mine.alloc (.inr HO.out) _) _ 1 [cv ((p.1), (p.1 + p.2) - (p.1))] rfl (Gives.elem Try.underlying32 hi hz0 hz1 _ rfl) (by simp only [maxLen]; omega) (by omega) (by have := HBR.out.size; simp <;> omega) ?_; intro A5 c5 w5 hm5 hg5 hb5 hat5 hown5)
            have ho5 := hown5 (.inl (by decide))
            have HO5 := Lib.hid ho5
            have HB5 := Lib.hid ((HBR.out.alloc HBR.out.size _).trans hb5)
            clear ho5 hown5 hat5 hg5 hm5 hb5
            go_wp2_with fail
            go_step3
            exact .inl ⟨rfl, ⟨d, _, c1, W, HCTX.out, ⟨1, m ++ [(p.1, (p.1 + p.2) - p.1)], _, _, _, _, _, _, _, _, _, _, _, _, _, _, _, _, _, _, _, _, _, _, _, _, _, _, _, _, _, _, _, _, _, _, _, _, _, _, _, _, _, _, _, _, _, _, _, _, _, _, _, _, _, _, _, _, _, _, _, _, _, _, _, by omega, HG2.out, by rw [List.length_append, List.length_singleton]; omega, by simpa using HO5.out, HB5.out, rfl⟩⟩⟩
        · have hne : ((0 : Int) == (n : Int)) = true := by simp; omega
          have HM : Hid (G = m) := by
            show _ = _
            rw [HGN.out, List.drop_of_length_le (by have := HDL.out; omega)]
            exact List.append_nil m
          clear HGN
          go_wp2_with fail
          simp only [jump2]
          go_ret2
          rw [HM.out, HMN.out]
          exact ⟨none, 0, rfl, Sl.nil _, Nat.le_refl _, by simp [maxLen], HCTX.out.2.2.2⟩
  · rintro x wr ⟨d, A1, c1, W, hctx, i, m, v, u1, u2, u3, u4, u5, u9, u10, u11, u12, u13, u14, u15, u16, u17, u18, u19, u20, u21, u22, u23, u24, u25, u26, u27, u28, u29, u30, u31, u32, u33, u34, u35, u36, u37, u38, u39, u40, u41, u42, u43, u44, u45, u46, u47, u48, u49, u50, u51, u52, u53, u54, u55, u56, u57, u58, u59, u60, u61, u62, u63, u64, u65, hin', hgn, hmi, ho, hbr, rfl⟩
    have HGN := Lib.hid hgn
    clear hgn HGE HL HS CLN
    have HCTX := Lib.hid hctx
    have HDL := Lib.hid hctx.2.1
    have HDS := Lib.hid hctx.1
    have HD : Hid (∀ w', Below W.heap.size W w' → Sl w' w'.heap.size 1 A1 n (d.map cv)) := Lib.hid fun w' hk => hctx.2.2.1.on (Nat.le_refl _) hk
    have HBR := Lib.hid hbr
    have HO := Lib.hid ho
    clear hctx hbr ho
    by_cases hin : i < n
    · have hinI : (i : Int) < (n : Int) := by omega
      have hin0 : (0 : Int) ≤ (i : Int) := by omega
      have hne : ((i : Int) == (n : Int)) = false := by simp; omega
      have hA : ∃ b off, A1 = some ⟨b, off, none⟩ := by
        obtain ⟨b, off, e, _⟩ := (HD.out wr HBR.out).at (by omega) (by decide)
        exact ⟨b, off, e⟩
      obtain ⟨b0, off, rfl⟩ := hA
      obtain ⟨p, hp⟩ : ∃ p, d[i]? = some p := ⟨_, List.getElem?_eq_getElem (by have := HDL.out; omega)⟩
      have sp := HDS.out p (List.mem_of_getElem? hp)
      have ENp := Lib.hid (fun w => ends_yes sp w)
      have zp := sp
      unfold St at zp
      obtain ⟨yp1, yp2, yp3⟩ := zp
      have hcellp : wr.cell? ⟨b0, off + (i), none⟩ = some (.complex .f64 (fz p.1) (fz p.2)) := by
        obtain ⟨b', off', e, hb', hcc⟩ := (HD.out wr HBR.out).at (by omega) (by decide)
        injection e with e
        injection e with e1 e2
        subst e1; subst e2
        exact hcc (i) _ (by rw [List.getElem?_map, hp]; rfl)
      have HG : Hid (G = m ++ grow p.1 (p.1 + p.2) (d.drop (i + 1))) := by
        show _ = _
        rw [HGN.out, norm_drop hp]
      clear hp HGN
      by_cases hq2 : i + 1 < n
      · have hq2I : (i : Int) + 1 < (n : Int) := by omega
        have hq20 : (0 : Int) ≤ (i : Int) + 1 := by omega
        obtain ⟨q, hq⟩ : ∃ p, d[i + 1]? = some p := ⟨_, List.getElem?_eq_getElem (by have := HDL.out; omega)⟩
        have sq := HDS.out q (List.mem_of_getElem? hq)
        have ENq := Lib.hid (fun w => ends_yes sq w)
        have zq := sq
        unfold St at zq
        obtain ⟨yq1, yq2, yq3⟩ := zq
        have hcellq : wr.cell? ⟨b0, off + (i + 1), none⟩ = some (.complex .f64 (fz q.1) (fz q.2)) := by
          obtain ⟨b', off', e, hb', hcc⟩ := (HD.out wr HBR.out).at (by omega) (by decide)
          injection e with e
          injection e with e1 e2
          subst e1; subst e2
          exact hcc (i + 1) _ (by rw [List.getElem?_map, hq]; rfl)
        by_cases hle : q.1 ≤ p.1 + p.2
        · have HG2 := Lib.hid (HG.out.trans (by rw [grow_on hq hle]))
          clear hq sq HG
          go_wp2_with fail
          refine (ENp.out _).mono ?_
          rintro e w' ⟨rfl, rfl⟩
          go_wp2_with fail
          go_step3
          go_wp2_with fail
          refine (ENq.out _).mono ?_
          rintro e w' ⟨rfl, rfl⟩
          go_wp2_with fail
          go_step3
          exact .inr ⟨rfl, ⟨⟨d, _, c1, W, HCTX.out, ⟨i + 1, m, _, p.1, _, _, _, _, _, _, _, _, _, _, _, _, _, _, _, _, _, _, _, _, _, _, _, _, _, _, _, _, _, _, _, _, _, _, _, _, _, _, _, _, _, _, _, _, _, _, _, _, _, _, _, _, _, _, _, _, _, _, _, _, _, by omega, HG2.out, by omega, by omega, by omega, by omega, HO.out, HBR.out, rfl⟩⟩, by simp [intOf]; omega⟩⟩
        · have hleI : p.1 + p.2 < q.1 := by omega
          have HG2 := Lib.hid (HG.out.trans (by rw [grow_off hq hle, show m ++ (p.1, (p.1 + p.2) - p.1) :: normM (d.drop (i + 1)) = (m ++ [(p.1, (p.1 + p.2) - p.1)]) ++ normM (d.drop (i + 1)) by simp]))
          clear hq sq HG hle
          go_wp2_with fail
          refine (ENp.out _).mono ?_
          rintro e w' ⟨rfl, rfl⟩
          go_wp2_with fail
          go_step3
          have hst : St (p.1) ((p.1 + p.2) - (p.1)) := by unfold St; omega
          have BT := Lib.hid (fun w => between_yes hst w)
          clear hst
          go_wp2_with fail
          refine (ENq.out _).mono ?_
          rintro e w' ⟨rfl, rfl⟩
          go_wp2_with fail
          refine (BT.out _).mono ?_
          rintro e w' ⟨rfl, rfl⟩
          go_wp2_with (at_builtin; refine wpList_append_mine rfl (.tmp 60) (.tmp 64) _ _ rfl W.heap.size 22 i0 (.complex .f64 0 0) 1 16 hz1 hz2 rfl (by decide) _ _ _ rfl (Mine.alloc (.inr HO.out) _) _ 1 [cv ((p.1), (p.1 + p.2) - (p.1))] rfl (Gives.elem Try.underlying32 hi hz0 hz1 _ rfl) (by simp only [maxLen]; omega) (by omega) (by have := HBR.out.size; simp <;> omega) ?_; intro A5 c5 w5 hm5 hg5 hb5 hat5 hown5)
          have ho5 := hown5 (.inl (by decide))
          have HO5 := Lib.hid ho5
          have HB5 := Lib.hid ((HBR.out.alloc HBR.out.size _).trans hb5)
          clear ho5 hown5 hat5 hg5 hm5 hb5
          go_wp2_with fail
          go_step3
          exact .inl ⟨rfl, ⟨⟨d, _, c1, W, HCTX.out, ⟨i + 1, m ++ [(p.1, (p.1 + p.2) - p.1)], _, _, _, _, _, _, _, _, _, _, _, _, _, _, _, _, _, _, _, _, _, _, _, _, _, _, _, _, _, _, _, _, _, _, _, _, _, _, _, _, _, _, _, _, _, _, _, _, _, _, _, _, _, _, _, _, _, _, _, _, _, _, _, by omega, HG2.out, by rw [List.length_append, List.length_singleton]; omega, by simpa using HO5.out, HB5.out, rfl⟩⟩, by simp [intOf]; omega⟩⟩
      · have hq2I : (n : Int) ≤ (i : Int) + 1 := by omega
        have HG2 := Lib.hid (HG.out.trans (by rw [grow_end (by have := HDL.out; omega), show m ++ (p.1, (p.1 + p.2) - p.1) :: normM (d.drop (i + 1)) = (m ++ [(p.1, (p.1 + p.2) - p.1)]) ++ normM (d.drop (i + 1)) by simp]))
        clear HG
        go_wp2_with fail
        refine (ENp.out _).mono ?_
        rintro e w' ⟨rfl, rfl⟩
        go_wp2_with fail
        go_step3
        have hst : St (p.1) ((p.1 + p.2) - (p.1)) := by unfold St; omega
        have BT := Lib.hid (fun w => between_yes hst w)
        clear hst
        go_wp2_with fail
        refine (BT.out _).mono ?_
        rintro e w' ⟨rfl, rfl⟩
        go_wp2_with (at_builtin; refine wpList_append_mine rfl (.tmp 60) (.tmp 64) _ _ rfl W.heap.size 22 i0 (.complex .f64 0 0) 1 16 hz1 hz2 rfl (by decide) _ _ _ rfl (Mine.alloc (.inr HO.out) _) _ 1 [cv ((p.1), (p.1 + p.2) - (p.1))] rfl (Gives.elem Try.underlying32 hi hz0 hz1 _ rfl) (by simp only [maxLen]; omega) (by omega) (by have := HBR.out.size; simp <;> omega) ?_; intro A5 c5 w5 hm5 hg5 hb5 hat5 hown5)
        have ho5 := hown5 (.inl (by decide))
        have HO5 := Lib.hid ho5
        have HB5 := Lib.hid ((HBR.out.alloc HBR.out.size _).trans hb5)
        clear ho5 hown5 hat5 hg5 hm5 hb5
        go_wp2_with fail
        go_step3
        exact .inl ⟨rfl, ⟨⟨d, _, c1, W, HCTX.out, ⟨i + 1, m ++ [(p.1, (p.1 + p.2) - p.1)], _, _, _, _, _, _, _, _, _, _, _, _, _, _, _, _, _, _, _, _, _, _, _, _, _, _, _, _, _, _, _, _, _, _, _, _, _, _, _, _, _, _, _, _, _, _, _, _, _, _, _, _, _, _, _, _, _, _, _, _, _, _, _, by omega, HG2.out, by rw [List.length_append, List.length_singleton]; omega, by simpa using HO5.out, HB5.out, rfl⟩⟩, by simp [intOf]; omega⟩⟩
    · have hne : ((i : Int) == (n : Int)) = true := by simp; omega
      have HM : Hid (G = m) := by
        show _ = _
        rw [HGN.out, List.drop_of_length_le (by have := HDL.out; omega)]
        exact List.append_nil m
      obtain ⟨Ao, co, rfl, hco, hcm, hso⟩ := Mine.form (.inr HO.out)
      have HSO := Lib.hid hso
      clear hso HGN
      go_wp2_with fail
      simp only [jump2]
      go_ret2
      rw [HM.out]
      exact ⟨Ao, co, rfl, HSO.out, hco, hcm, HCTX.out.2.2.2.trans (Below.mono HBR.out HCTX.out.2.2.2.size)⟩
  · rintro x wr ⟨d, A1, c1, W, hctx, i, m, v, a, b, u1, u2, u3, u4, u5, u11, u12, u13, u14, u15, u16, u17, u18, u19, u20, u21, u22, u23, u24, u25, u26, u27, u28, u29, u30, u31, u32, u33, u34, u35, u36, u37, u38, u39, u40, u41, u42, u43, u44, u45, u46, u47, u48, u49, u50, u51, u52, u53, u54, u55, u56, u57, u58, u59, u60, u61, u62, u63, u64, u65, hin, hgn, ha0, hab, hbb, hmi, ho, hbr, rfl⟩
    have HG := Lib.hid hgn
    clear hgn HGE HL HS CLN
    have HCTX := Lib.hid hctx
    have HDL := Lib.hid hctx.2.1
    have HDS := Lib.hid hctx.1
    have HD : Hid (∀ w', Below W.heap.size W w' → Sl w' w'.heap.size 1 A1 n (d.map cv)) := Lib.hid fun w' hk => hctx.2.2.1.on (Nat.le_refl _) hk
    have HBR := Lib.hid hbr
    have HO := Lib.hid ho
    clear hctx hbr ho
    have hA : ∃ b off, A1 = some ⟨b, off, none⟩ := by
      obtain ⟨b, off, e, _⟩ := (HD.out wr HBR.out).at (by omega) (by decide)
      exact ⟨b, off, e⟩
    obtain ⟨b0, off, rfl⟩ := hA
    by_cases hq2 : i + 1 < n
    · have hq2I : (i : Int) + 1 < (n : Int) := by omega
      have hq20 : (0 : Int) ≤ (i : Int) + 1 := by omega
      obtain ⟨q, hq⟩ : ∃ p, d[i + 1]? = some p := ⟨_, List.getElem?_eq_getElem (by have := HDL.out; omega)⟩
      have sq := HDS.out q (List.mem_of_getElem? hq)
      have ENq := Lib.hid (fun w => ends_yes sq w)
      have zq := sq
      unfold St at zq
      obtain ⟨yq1, yq2, yq3⟩ := zq
      have hcellq : wr.cell? ⟨b0, off + (i + 1), none⟩ = some (.complex .f64 (fz q.1) (fz q.2)) := by
        obtain ⟨b', off', e, hb', hcc⟩ := (HD.out wr HBR.out).at (by omega) (by decide)
        injection e with e
        injection e with e1 e2
        subst e1; subst e2
        exact hcc (i + 1) _ (by rw [List.getElem?_map, hq]; rfl)
      by_cases hle : q.1 ≤ b
      · have HG2 := Lib.hid (HG.out.trans (by rw [grow_on hq hle]))
        clear hq sq HG
        go_wp2_with fail
        refine (ENq.out _).mono ?_
        rintro e w' ⟨rfl, rfl⟩
        go_wp2_with fail
        go_step3
        exact .inr ⟨rfl, ⟨⟨d, _, c1, W, HCTX.out, ⟨i + 1, m, _, a, _, _, _, _, _, _, _, _, _, _, _, _, _, _, _, _, _, _, _, _, _, _, _, _, _, _, _, _, _, _, _, _, _, _, _, _, _, _, _, _, _, _, _, _, _, _, _, _, _, _, _, _, _, _, _, _, _, _, _, _, _, by omega, HG2.out, by omega, by omega, by omega, by omega, HO.out, HBR.out, rfl⟩⟩, by simp [intOf]; omega⟩⟩
      · have hleI : b < q.1 := by omega
        have HG2 := Lib.hid (HG.out.trans (by rw [grow_off hq hle, show m ++ (a, (b) - a) :: normM (d.drop (i + 1)) = (m ++ [(a, (b) - a)]) ++ normM (d.drop (i + 1)) by simp]))
        clear hq sq HG hle
        have hst : St (a) ((b) - (a)) := by unfold St; omega
        have BT := Lib.hid (fun w => between_yes hst w)
        clear hst
        go_wp2_with fail
        refine (ENq.out _).mono ?_
        rintro e w' ⟨rfl, rfl⟩
        go_wp2_with fail
        refine (BT.out _).mono ?_
        rintro e w' ⟨rfl, rfl⟩
        go_wp2_with (at_builtin; refine wpList_append_mine rfl (.tmp 60) (.tmp 64) _ _ rfl W.heap.size 22 i0 (.complex .f64 0 0) 1 16 hz1 hz2 rfl (by decide) _ _ _ rfl (Mine.alloc (.inr HO.out) _) _ 1 [cv ((a), (b) - (a))] rfl (Gives.elem Try.underlying32 hi hz0 hz1 _ rfl) (by simp only [maxLen]; omega) (by omega) (by have := HBR.out.size; simp <;> omega) ?_; intro A5 c5 w5 hm5 hg5 hb5 hat5 hown5)
        have ho5 := hown5 (.inl (by decide))
        have HO5 := Lib.hid ho5
        have HB5 := Lib.hid ((HBR.out.alloc HBR.out.size _).trans hb5)
        clear ho5 hown5 hat5 hg5 hm5 hb5
        go_wp2_with fail
        go_step3
        exact .inl ⟨rfl, ⟨⟨d, _, c1, W, HCTX.out, ⟨i + 1, m ++ [(a, (b) - a)], _, _, _, _, _, _, _, _, _, _, _, _, _, _, _, _, _, _, _, _, _, _, _, _, _, _, _, _, _, _, _, _, _, _, _, _, _, _, _, _, _, _, _, _, _, _, _, _, _, _, _, _, _, _, _, _, _, _, _, _, _, _, _, by omega, HG2.out, by rw [List.length_append, List.length_singleton]; omega, by simpa using HO5.out, HB5.out, rfl⟩⟩, by simp [intOf]; omega⟩⟩
    · have hq2I : (n : Int) ≤ (i : Int) + 1 := by omega
      have HG2 := Lib.hid (HG.out.trans (by rw [grow_end (by have := HDL.out; omega), show m ++ (a, (b) - a) :: normM (d.drop (i + 1)) = (m ++ [(a, (b) - a)]) ++ normM (d.drop (i + 1)) by simp]))
      clear HG
      have hst : St (a) ((b) - (a)) := by unfold St; omega
      have BT := Lib.hid (fun w => between_yes hst w)
      clear hst
      go_wp2_with fail
      refine (BT.out _).mono ?_
      rintro e w' ⟨rfl, rfl⟩
      go_wp2_with (at_builtin; refine wpList_append_mine rfl (.tmp 60) (.tmp 64) _ _ rfl W.heap.size 22 i0 (.complex .f64 0 0) 1 16 hz1 hz2 rfl (by decide) _ _ _ rfl (Mine.alloc (.inr HO.out) _) _ 1 [cv ((a), (b) - (a))] rfl (Gives.elem Try.underlying32 hi hz0 hz1 _ rfl) (by simp only [maxLen]; omega) (by omega) (by have := HBR.out.size; simp <;> omega) ?_; intro A5 c5 w5 hm5 hg5 hb5 hat5 hown5)
      have ho5 := hown5 (.inl (by decide))
      have HO5 := Lib.hid ho5
      have HB5 := Lib.hid ((HBR.out.alloc HBR.out.size _).trans hb5)
      clear ho5 hown5 hat5 hg5 hm5 hb5
      go_wp2_with fail
      go_step3
      exact .inl ⟨rfl, ⟨⟨d, _, c1, W, HCTX.out, ⟨i + 1, m ++ [(a, (b) - a)], _, _, _, _, _, _, _, _, _, _, _, _, _, _, _, _, _, _, _, _, _, _, _, _, _, _, _, _, _, _, _, _, _, _, _, _, _, _, _, _, _, _, _, _, _, _, _, _, _, _, _, _, _, _, _, _, _, _, _, _, _, _, _, by omega, HG2.out, by rw [List.length_append, List.length_singleton]; omega, by simpa using HO5.out, HB5.out, rfl⟩⟩, by simp [intOf]; omega⟩⟩
end Go.Proofs.Ythdbllcpfajjmaa.Sp
