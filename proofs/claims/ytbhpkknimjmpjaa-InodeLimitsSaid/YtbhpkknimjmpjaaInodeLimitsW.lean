/-
  'InodeLimits' walked: just where the limits are.
-/
import Derived.Test.YtbhpkknimjmpjaaInode12
import Derived.Test.YtbhpkknimjmpjaaInode15
import Derived.Test.YtbhpkknimjmpjaaRowG
namespace Go.Proofs.Ytbhpkknimjmpjaa.In
open Go.RowKit Wd Wi
set_option linter.unusedVariables false
def fl (k : Nat) : List Int := 1 :: 4096 :: 10000 :: 16777215 :: 16777215 :: (List.range 32).map fun i => if i < k then 1023 - (i : Int) else 0
theorem fl_len (k : Nat) : (fl k).length = 37 := by simp [fl]
theorem fl_set (k : Nat) (h : k < 32) : (fl k).set (5 + k) (1023 - (k : Int)) = fl (k + 1) := by
  apply List.ext_getElem
  · simp [fl]
  · intro i h1 h2
    by_cases hi : i = 5 + k
    · subst hi
      simp [fl, Nat.add_comm 5 k]
    · rw [List.getElem_set_ne (fun e => hi e.symm)]
      match i, hi with
      | 0, _ => rfl
      | 1, _ => rfl
      | 2, _ => rfl
      | 3, _ => rfl
      | 4, _ => rfl
      | j + 5, hi =>
        have hjk : ¬ j = k := by omega
        simp [fl]
        by_cases h3 : j < k
        · rw [if_pos h3, if_pos (by omega)]
        · rw [if_neg h3, if_neg (by omega)]
def F : List Int := 1 :: 4096 :: 10000 :: 16777215 :: 16777215 :: [1023, 1022, 1021, 1020, 1019, 1018, 1017, 1016, 1015, 1014, 1013, 1012, 1011, 1010, 1009, 1008, 1007, 1006, 1005, 1004, 1003, 1002, 1001, 1000, 999, 998, 997, 996, 995, 994, 993, 992]
theorem fl_F : fl 32 = F := by decide
def DD : List Int := 2 :: 0 :: 1 :: 1 :: List.replicate 33 0
theorem built_DD : Try.prog.built 26 [(0, .int .i64 2), (2, .int .i64 1), (3, .int .i64 1)] = some (ints DD) := by kernel_rfl
/-- variables in memory: what each holds; no two are the same -/
structure Vs (w : World) (l : List (Nat × List Int)) : Prop where
  row : ∀ p ∈ l, IRow w p.1 p.2
  lt : ∀ p ∈ l, p.1 < w.heap.size
  nd : (l.map (·.1)).Nodup
theorem Vs.get {w : World} {l : List (Nat × List Int)} (h : Vs w l) (i : Nat) {b : Nat} {xs : List Int} (hi : l[i]? = some (b, xs)) : IRow w b xs := h.row (b, xs) (List.mem_of_getElem? hi)
theorem Vs.store {w w' : World} {l : List (Nat × List Int)} (h : Vs w l) (i : Nat) {b : Nat} {xs ys : List Int} (hi : l[i]? = some (b, xs)) (hr : IRow w' b ys) (ho : Only b w w') : Vs w' (l.set i (b, ys)) := by
  have hlt : i < l.length := (List.getElem?_eq_some_iff.1 hi).1
  have hli : l[i] = (b, xs) := (List.getElem?_eq_some_iff.1 hi).2
  have key : ∀ (j : Nat) (p : Nat × List Int), (l.set i (b, ys))[j]? = some p → (j = i ∧ p = (b, ys)) ∨ (j ≠ i ∧ l[j]? = some p) := by
    intro j p hp
    by_cases hji : j = i
    · subst hji
      rw [List.getElem?_set_self hlt] at hp
      injection hp with hp
      exact .inl ⟨rfl, hp.symm⟩
    · rw [List.getElem?_set_ne (fun e => hji e.symm)] at hp
      exact .inr ⟨hji, hp⟩
  have hne : ∀ (j : Nat) (p : Nat × List Int), j ≠ i → l[j]? = some p → p.1 ≠ b := by
    intro j p hji hp e
    have hj : j < l.length := (List.getElem?_eq_some_iff.1 hp).1
    have hlj : l[j] = p := (List.getElem?_eq_some_iff.1 hp).2
    have h2 := List.pairwise_iff_getElem.1 h.nd
    rcases Nat.lt_or_gt_of_ne hji with hl | hl
    · exact h2 j i (by simpa using hj) (by simpa using hlt) hl (by simp [hlj, hli, e])
    · exact h2 i j (by simpa using hlt) (by simpa using hj) hl (by simp [hlj, hli, e])
  refine ⟨fun p hp => ?_, fun p hp => ?_, ?_⟩
  · obtain ⟨j, hj⟩ := List.getElem?_of_mem hp
    rcases key j p hj with ⟨_, rfl⟩ | ⟨hji, hp2⟩
    · exact hr
    · exact (h.row p (List.mem_of_getElem? hp2)).only ho (hne j p hji hp2)
  · obtain ⟨j, hj⟩ := List.getElem?_of_mem hp
    rcases key j p hj with ⟨_, rfl⟩ | ⟨hji, hp2⟩
    · exact Nat.lt_of_lt_of_le (h.lt (b, xs) (List.mem_of_getElem? hi)) ho.size
    · exact Nat.lt_of_lt_of_le (h.lt p (List.mem_of_getElem? hp2)) ho.size
  · have e : (l.set i (b, ys)).map (·.1) = l.map (·.1) := by
      rw [List.map_set]
      apply List.ext_getElem
      · simp
      · intro j h1 h2
        by_cases hji : i = j
        · subst hji; simp [hli]
        · rw [List.getElem_set_ne hji]
    rw [e]
    exact h.nd
theorem Vs.alloc {w w' : World} {l : List (Nat × List Int)} {xs : List Int} (h : Vs w l) (hr : IRow w' w.heap.size xs) (hb : Below w.heap.size w w') (hlt : w.heap.size < w'.heap.size) : Vs w' (l ++ [(w.heap.size, xs)]) := by
  refine ⟨fun p hp => ?_, fun p hp => ?_, ?_⟩
  · rcases List.mem_append.1 hp with h1 | h1
    · exact (h.row p h1).below hb (h.lt p h1)
    · rw [List.mem_singleton.1 h1]; exact hr
  · rcases List.mem_append.1 hp with h1 | h1
    · exact Nat.lt_of_lt_of_le (h.lt p h1) hb.size
    · rw [List.mem_singleton.1 h1]; exact hlt
  · rw [List.map_append, List.nodup_append]
    refine ⟨h.nd, by simp, ?_⟩
    intro x hx y hy
    obtain ⟨p, hp, rfl⟩ := List.mem_map.1 hx
    have := h.lt p hp
    simp at hy
    omega
theorem Vs.kept {w w' : World} {l : List (Nat × List Int)} (h : Vs w l) (hb : Below w.heap.size w w') : Vs w' l :=
  ⟨fun p hp => (h.row p hp).below hb (h.lt p hp), fun p hp => Nat.lt_of_lt_of_le (h.lt p hp) hb.size, h.nd⟩
/-! ### the four variables of the region that draws its order -/
def P4 (B : Nat) (x : List Int) (L : Array Bool) (a : Act) (w : World) : Prop :=
  (∀ j, j < 4 → L.getD (4 + j) false = true → ∃ b, a.tmps.getD (3 + j) undef = .pointer (some ⟨b, 0, none⟩) ∧ B ≤ b ∧ IV w b (if L.getD (8 + j) false then x else zIno)) ∧
  (∀ j j' b b', j < 4 → j' < 4 → j ≠ j' → L.getD (4 + j) false = true → L.getD (4 + j') false = true → a.tmps.getD (3 + j) undef = .pointer (some ⟨b, 0, none⟩) → a.tmps.getD (3 + j') undef = .pointer (some ⟨b', 0, none⟩) → b ≠ b')
theorem P4.start {B n : Nat} {x : List Int} {a : Act} {w : World} : P4 B x (Array.replicate n false) a w := by
  have h0 : ∀ k, (Array.replicate n false).getD k false = false := fun k => by
    rw [Array.getD_eq_getD_getElem?, Array.getElem?_replicate]
    split <;> rfl
  exact ⟨fun j _ h => absurd ((h0 _).symm.trans h) (by decide), fun j j' b b' _ _ _ h => absurd ((h0 _).symm.trans h) (by decide)⟩
theorem some_ne {d e : Nat} (h : d ≠ e) : (some d : Option Tmp) ≠ some (e : Tmp) := fun hh => h (by injection hh)
theorem P4.load {B : Nat} {x : List Int} {L : Array Bool} {a : Act} {w w' : World} {i : Nat} {d : Nat} {v : Value} (h : P4 B x L a w) (hk : Kept w w') (hi : i < 4) (hd : 6 < (d : Nat)) : P4 B x (L.setIfInBounds i true) (a.put (some d) v) w' := by
  constructor
  · intro j hj hl
    rw [set_other (by omega)] at hl
    obtain ⟨b, e, hb, hv⟩ := h.1 j hj hl
    refine ⟨b, by rw [put_other (some_ne (by omega))]; exact e, hb, ?_⟩
    rw [set_other (by omega)]
    exact hv.kept hk
  · intro j j' b b' hj hj' hne h1 h2 e1 e2
    rw [set_other (by omega)] at h1 h2
    rw [put_other (some_ne (by omega))] at e1 e2
    exact h.2 j j' b b' hj hj' hne h1 h2 e1 e2
theorem P4.alloc {B : Nat} {x : List Int} {L : Array Bool} {a : Act} {w w' : World} (j : Nat) (hj : j < 4) (h : P4 B x L a w) (h8 : L.getD (8 + j) false = false) (hts : 7 ≤ a.tmps.size) (hls : L.size = 12) (hB : B ≤ w.heap.size) (hiv : IV w' w.heap.size zIno) (hb : Below w.heap.size w w') :
    P4 B x (L.setIfInBounds (4 + j) true) (a.put (some (3 + j)) (.pointer (some ⟨w.heap.size, 0, none⟩))) w' := by
  constructor
  · intro k hk hl
    by_cases hkj : k = j
    · subst hkj
      refine ⟨w.heap.size, put_same (show (3 + k : Nat) < a.tmps.size by omega), hB, ?_⟩
      rw [set_other (by omega), h8]
      exact hiv
    · rw [set_other (by omega)] at hl
      obtain ⟨b, e, hbb, hv⟩ := h.1 k hk hl
      refine ⟨b, by rw [put_other (some_ne (by omega))]; exact e, hbb, ?_⟩
      rw [set_other (by omega)]
      exact hv.kept hb
  · intro k k' b b' hk hk' hne h1 h2 e1 e2
    have old : ∀ k, k < 4 → k ≠ j → (L.setIfInBounds (4 + j) true).getD (4 + k) false = true → ∀ b, (a.put (some (3 + j)) (.pointer (some ⟨w.heap.size, 0, none⟩))).tmps.getD (3 + k) undef = .pointer (some ⟨b, 0, none⟩) → L.getD (4 + k) false = true ∧ a.tmps.getD (3 + k) undef = .pointer (some ⟨b, 0, none⟩) ∧ b < w.heap.size := by
      intro k hk hkj h1 b e1
      rw [set_other (by omega)] at h1
      rw [put_other (some_ne (by omega))] at e1
      obtain ⟨b2, e2, _, hv⟩ := h.1 k hk h1
      rw [e1] at e2
      injection e2 with e2
      injection e2 with e2
      injection e2 with e2
      subst e2
      exact ⟨h1, e1, hv.lt⟩
    have new : ∀ b, (a.put (some (3 + j)) (.pointer (some ⟨w.heap.size, 0, none⟩))).tmps.getD (3 + j) undef = .pointer (some ⟨b, 0, none⟩) → b = w.heap.size := by
      intro b e
      rw [put_same (show (3 + j : Nat) < a.tmps.size by omega)] at e
      injection e with e
      injection e with e
      injection e with e
      exact e.symm
    by_cases hkj : k = j
    · subst hkj
      have hk2 := old k' hk' (fun e => hne e.symm) h2 b' e2
      have := new b e1
      omega
    · by_cases hkj' : k' = j
      · subst hkj'
        have hk2 := old k hk hkj h1 b e1
        have := new b' e2
        omega
      · obtain ⟨x1, x2, _⟩ := old k hk hkj h1 b e1
        obtain ⟨y1, y2, _⟩ := old k' hk' hkj' h2 b' e2
        exact h.2 k k' b b' hk hk' hne x1 y1 x2 y2
theorem P4.store {B : Nat} {x : List Int} {L : Array Bool} {a : Act} {w w' : World} (j : Nat) (hj : j < 4) (h : P4 B x L a w) (h4 : L.getD (4 + j) false = true) {b : Nat} (e : a.tmps.getD (3 + j) undef = .pointer (some ⟨b, 0, none⟩)) (hls : L.size = 12) (hiv : IV w' b x) (ho : Only b w w') :
    P4 B x (L.setIfInBounds (8 + j) true) (a.put none undef) w' := by
  constructor
  · intro k hk hl
    rw [set_other (by omega)] at hl
    obtain ⟨b2, e2, hb2, hv⟩ := h.1 k hk hl
    refine ⟨b2, e2, hb2, ?_⟩
    by_cases hkj : k = j
    · subst hkj
      rw [set_same (by omega)]
      rw [e] at e2
      injection e2 with e2
      injection e2 with e2
      injection e2 with e2
      subst e2
      exact hiv
    · rw [set_other (by omega)]
      exact hv.only ho (h.2 k j b2 b hk hj hkj hl h4 e2 e)
  · intro k k' b1 b2 hk hk' hne h1 h2 e1 e2
    rw [set_other (by omega)] at h1 h2
    exact h.2 k k' b1 b2 hk hk' hne h1 h2 e1 e2
def chkF : List Int → Bool
  | k0 :: s0 :: l0 :: o0 :: n0 :: ps => chk k0 s0 l0 o0 n0 ps
  | _ => false
theorem checkF {xs : List Int} (h : xs.length = 37) (c : Bool) (hc : chkF xs = c) (w : World) : Calls Try.prog 14 #[.agg (ints xs)] w fun e w' => e = .returned (.bool c) ∧ Below w.heap.size w w' := by
  subst hc
  match xs, h with
  | k0 :: s0 :: l0 :: o0 :: n0 :: ps, h => exact check_any k0 s0 l0 o0 n0 ps (by simpa using h) w
theorem c1 : chkF F = true := by decide +kernel
theorem c2 : chkF (F.set 1 4097) = false := by decide +kernel
theorem c3 : chkF (F.set 2 10001) = false := by decide +kernel
theorem c4 : chkF (F.set 3 16777216) = false := by decide +kernel
theorem c5 : chkF (F.set 5 1024) = false := by decide +kernel
theorem c6 : chkF (F.set 8 1019) = false := by decide +kernel
theorem c7 : chkF (F.set 1 3968) = false := by decide +kernel
theorem c8 : chkF DD = true := by decide +kernel
theorem c9 : chkF (DD.set 1 128) = false := by decide +kernel
theorem cntF : cnt F = 32 := by decide +kernel
set_option maxRecDepth 100000 in
set_option maxHeartbeats 6400000 in
theorem inodeLimits_walk (w : World) : Calls Try.prog 7 #[] w fun e w' => e = .returned (.bool true) ∧ Below w.heap.size w w' := by
  have h0 : fl 0 = 1 :: 4096 :: 10000 :: 16777215 :: 16777215 :: List.replicate 32 0 := by decide
  have HL0 : Hid ((1 :: 4096 :: 10000 :: 16777215 :: 16777215 :: List.replicate 32 (0 : Int)).length = 37) := (rfl : (1 :: 4096 :: 10000 :: 16777215 :: 16777215 :: List.replicate 32 (0 : Int)).length = 37)
  have H0 := Lib.hid h0
  clear h0
  have HF : Hid (F.length = 37) := (rfl : F.length = 37)
  have BD := built_DD
  go_enter Try.func7, Try.ntmps7
  go_wp2_with (first
    | ((with_reducible show wpList _ _ _ (⟨some 11, _, _, _, _, _⟩ :: _) _ _); refine wpList_val rfl (.agg (ints (1 :: 4096 :: 10000 :: 16777215 :: 16777215 :: List.replicate 32 0))) _ (by unfold execOp; simp) ?_)
    | ((with_reducible show wpList _ _ _ (⟨some 1, _, _, _, _, _⟩ :: _) _ _); refine wpList_alloc_ino rfl rfl ?_; intro w1 hr1 hb1 hlt1)
    | ((with_reducible show wpList _ _ _ (⟨none, Op.store 26 (.tmp 1) _, _, _, _, _⟩ :: _) _ _); refine wpList_store_ino rfl _ _ rfl hr1 zIno_len HL0.out rfl rfl ?_; intro w2 hr2 ho2; rw [← H0.out] at hr2))
  go_loopw [2] (fun j wr => ∃ k : Nat, k ≤ 32 ∧ j = .int .i64 (k : Int) ∧ IRow wr w.heap.size (fl k) ∧ Below w.heap.size w wr ∧ w.heap.size < wr.heap.size) (fun j _ => 32 - (intOf j).toNat)
  case atStart => exact ⟨0, by omega, rfl, hr2, ho2.below hb1 (Nat.le_refl _), Nat.lt_of_lt_of_le hlt1 ho2.size⟩
  case round =>
    obtain ⟨k, hk, rfl, hr, hb, hlt⟩ := hrel
    have HR := Lib.hid hr
    have HB := Lib.hid hb
    have HLT := Lib.hid hlt
    clear hr hb hlt
    by_cases hlt5 : k < 32
    · have hltI : (k : Int) < 32 := by omega
      go_wp2_with ((with_reducible show wpList _ _ _ (⟨none, Op.store 3 (.tmp 20) _, _, _, _, _⟩ :: _) _ _); refine wpList_store_num rfl _ _ _ rfl Try.underlying3 (by kernel_rfl) HR.out (fl_len k) _ _ (show (5 + k : Nat) < 37 by omega) rfl rfl ?_; intro w9 hr9 ho9 hl9)
      go_roundw
      case measure => simp [intOf]; omega
      case rel =>
        have e := fl_set k hlt5
        exact ⟨k + 1, by omega, by simp, by rw [← e]; exact hr9, ho9.below HB.out (Nat.le_refl _), Nat.lt_of_lt_of_le HLT.out ho9.size⟩
    · have hge : (32 : Int) ≤ (k : Int) := by omega
      have hk32 : k = 32 := by omega
      subst hk32
      rw [fl_F] at HR
      clear hlt5
      obtain ⟨w3, rfl⟩ : ∃ w3 : World, w3 = wr := ⟨_, rfl⟩
      obtain ⟨b1, hb1⟩ : ∃ b1, b1 = w.heap.size := ⟨_, rfl⟩
      rw [← hb1] at HR HLT ⊢
      have HE := Lib.hid hb1
      clear hb1
      have R1 := HR
      have HL1 := HLT
      go_wp2_with fail

      refine wp_region_relyG w3.heap.size (Nat.le_refl _) (by kernel_rfl) (fun d u w' => match d with
        | 3 => True
        | 4 => True
        | 5 => True
        | 6 => True
        | 21 => u = (.agg (ints F) : Value)
        | 22 => u = (.agg (ints F) : Value)
        | 23 => u = (.agg (ints F) : Value)
        | 24 => u = (.agg (ints F) : Value)
        | _ => True) 99 rfl (by decide +kernel) [] (P4 w3.heap.size F) (P4.start) ?_ ?_
      · refine AllSteps.cons (StepG.of rfl (fun a w' K hl hK => ?_) (fun L a w w' v hp hts hls hk hat => P4.load hp hk (by decide) (by decide))) ?_
        · have h1 : a.eval (.tmp 1) = (.pointer (some ⟨b1, 0, none⟩) : Value) := hl.old 1 rfl
          exact wp_load_ino rfl (R1.out.kept hl.kept HL1.out) HF.out h1 (hK _ _ (Kept.refl _) rfl)
        refine AllSteps.cons (StepG.of rfl (fun a w' K hl hK => ?_) (fun L a w w' v hp hts hls hk hat => P4.load hp hk (by decide) (by decide))) ?_
        · have h1 : a.eval (.tmp 1) = (.pointer (some ⟨b1, 0, none⟩) : Value) := hl.old 1 rfl
          exact wp_load_ino rfl (R1.out.kept hl.kept HL1.out) HF.out h1 (hK _ _ (Kept.refl _) rfl)
        refine AllSteps.cons (StepG.of rfl (fun a w' K hl hK => ?_) (fun L a w w' v hp hts hls hk hat => P4.load hp hk (by decide) (by decide))) ?_
        · have h1 : a.eval (.tmp 1) = (.pointer (some ⟨b1, 0, none⟩) : Value) := hl.old 1 rfl
          exact wp_load_ino rfl (R1.out.kept hl.kept HL1.out) HF.out h1 (hK _ _ (Kept.refl _) rfl)
        refine AllSteps.cons (StepG.of rfl (fun a w' K hl hK => ?_) (fun L a w w' v hp hts hls hk hat => P4.load hp hk (by decide) (by decide))) ?_
        · have h1 : a.eval (.tmp 1) = (.pointer (some ⟨b1, 0, none⟩) : Value) := hl.old 1 rfl
          exact wp_load_ino rfl (R1.out.kept hl.kept HL1.out) HF.out h1 (hK _ _ (Kept.refl _) rfl)
        refine AllSteps.cons (StepG.raw rfl fun L a w' K hl hp hls hts hnl hw hwt hK => ?_) ?_
        · refine wp_alloc_ino rfl fun w9 hiv hb => hK _ _ (Below.mono hb (Below.size hl.kept)) (fun _ _ _ _ hs => hs.kept hb) trivial (P4.alloc 0 (by decide) hp ?_ (by rw [hts]; exact (by decide : 7 ≤ 99)) hls (Below.size hl.kept) hiv hb)
          cases h : L.getD 8 false
          · rfl
          · have hc := hwt 8 _ ⟨4, .data⟩ h rfl (by simp) rfl
            rw [Array.getD_eq_getD_getElem?] at hc hnl
            cases hx : L[4]? with
            | none => rw [hx] at hc; cases hc
            | some b => rw [hx] at hc hnl; simp at hc hnl; rw [hc] at hnl; cases hnl
        refine AllSteps.cons (StepG.raw rfl fun L a w' K hl hp hls hts hnl hw hwt hK => ?_) ?_
        · refine wp_alloc_ino rfl fun w9 hiv hb => hK _ _ (Below.mono hb (Below.size hl.kept)) (fun _ _ _ _ hs => hs.kept hb) trivial (P4.alloc 1 (by decide) hp ?_ (by rw [hts]; exact (by decide : 7 ≤ 99)) hls (Below.size hl.kept) hiv hb)
          cases h : L.getD 9 false
          · rfl
          · have hc := hwt 9 _ ⟨5, .data⟩ h rfl (by simp) rfl
            rw [Array.getD_eq_getD_getElem?] at hc hnl
            cases hx : L[5]? with
            | none => rw [hx] at hc; cases hc
            | some b => rw [hx] at hc hnl; simp at hc hnl; rw [hc] at hnl; cases hnl
        refine AllSteps.cons (StepG.raw rfl fun L a w' K hl hp hls hts hnl hw hwt hK => ?_) ?_
        · refine wp_alloc_ino rfl fun w9 hiv hb => hK _ _ (Below.mono hb (Below.size hl.kept)) (fun _ _ _ _ hs => hs.kept hb) trivial (P4.alloc 2 (by decide) hp ?_ (by rw [hts]; exact (by decide : 7 ≤ 99)) hls (Below.size hl.kept) hiv hb)
          cases h : L.getD 10 false
          · rfl
          · have hc := hwt 10 _ ⟨6, .data⟩ h rfl (by simp) rfl
            rw [Array.getD_eq_getD_getElem?] at hc hnl
            cases hx : L[6]? with
            | none => rw [hx] at hc; cases hc
            | some b => rw [hx] at hc hnl; simp at hc hnl; rw [hc] at hnl; cases hnl
        refine AllSteps.cons (StepG.raw rfl fun L a w' K hl hp hls hts hnl hw hwt hK => ?_) ?_
        · refine wp_alloc_ino rfl fun w9 hiv hb => hK _ _ (Below.mono hb (Below.size hl.kept)) (fun _ _ _ _ hs => hs.kept hb) trivial (P4.alloc 3 (by decide) hp ?_ (by rw [hts]; exact (by decide : 7 ≤ 99)) hls (Below.size hl.kept) hiv hb)
          cases h : L.getD 11 false
          · rfl
          · have hc := hwt 11 _ ⟨7, .data⟩ h rfl (by simp) rfl
            rw [Array.getD_eq_getD_getElem?] at hc hnl
            cases hx : L[7]? with
            | none => rw [hx] at hc; cases hc
            | some b => rw [hx] at hc hnl; simp at hc hnl; rw [hc] at hnl; cases hnl
        refine AllSteps.cons (StepG.raw rfl fun L a w' K hl hp hls hts hnl hw hwt hK => ?_) ?_
        · obtain ⟨_, _, _, h21⟩ := hl.dep 0 21 rfl rfl
          replace h21 : a.eval (.tmp 21) = _ := h21
          have h4 := hw ⟨4, .data⟩ (by simp) rfl
          obtain ⟨b9, h9, hb9, hiv⟩ := hp.1 0 (by decide) h4
          replace h9 : a.eval (.tmp 3) = _ := h9
          have h12 : L.getD 8 false = false := by
            rw [Array.getD_eq_getD_getElem?] at hnl ⊢
            cases hx : L[8]? with
            | none => rfl
            | some b => rw [hx] at hnl; simp at hnl; rw [hnl]; rfl
          have hiv2 : IV w' b9 zIno := by rw [h12] at hiv; exact hiv
          refine wp_store_ino rfl hiv2 zIno_len HF.out h9 h21 fun w9 hiv9 hon => hK _ _ (hon.low _ hb9) (fun d u hne hlv ⟨w8, hk8, h8⟩ => ⟨w9, Kept.refl _, ?_⟩) trivial (P4.store 0 (by decide) hp h4 h9 hls hiv9 hon)
          clear hl hK hlv hne hw hwt hp
          dsimp only at h8 ⊢
          split at h8 <;> first | exact h8 | (split <;> first | trivial | (exfalso; simp_all))
        refine AllSteps.cons (StepG.raw rfl fun L a w' K hl hp hls hts hnl hw hwt hK => ?_) ?_
        · obtain ⟨_, _, _, h22⟩ := hl.dep 1 22 rfl rfl
          replace h22 : a.eval (.tmp 22) = _ := h22
          have h4 := hw ⟨5, .data⟩ (by simp) rfl
          obtain ⟨b9, h9, hb9, hiv⟩ := hp.1 1 (by decide) h4
          replace h9 : a.eval (.tmp 4) = _ := h9
          have h12 : L.getD 9 false = false := by
            rw [Array.getD_eq_getD_getElem?] at hnl ⊢
            cases hx : L[9]? with
            | none => rfl
            | some b => rw [hx] at hnl; simp at hnl; rw [hnl]; rfl
          have hiv2 : IV w' b9 zIno := by rw [h12] at hiv; exact hiv
          refine wp_store_ino rfl hiv2 zIno_len HF.out h9 h22 fun w9 hiv9 hon => hK _ _ (hon.low _ hb9) (fun d u hne hlv ⟨w8, hk8, h8⟩ => ⟨w9, Kept.refl _, ?_⟩) trivial (P4.store 1 (by decide) hp h4 h9 hls hiv9 hon)
          clear hl hK hlv hne hw hwt hp
          dsimp only at h8 ⊢
          split at h8 <;> first | exact h8 | (split <;> first | trivial | (exfalso; simp_all))
        refine AllSteps.cons (StepG.raw rfl fun L a w' K hl hp hls hts hnl hw hwt hK => ?_) ?_
        · obtain ⟨_, _, _, h23⟩ := hl.dep 2 23 rfl rfl
          replace h23 : a.eval (.tmp 23) = _ := h23
          have h4 := hw ⟨6, .data⟩ (by simp) rfl
          obtain ⟨b9, h9, hb9, hiv⟩ := hp.1 2 (by decide) h4
          replace h9 : a.eval (.tmp 5) = _ := h9
          have h12 : L.getD 10 false = false := by
            rw [Array.getD_eq_getD_getElem?] at hnl ⊢
            cases hx : L[10]? with
            | none => rfl
            | some b => rw [hx] at hnl; simp at hnl; rw [hnl]; rfl
          have hiv2 : IV w' b9 zIno := by rw [h12] at hiv; exact hiv
          refine wp_store_ino rfl hiv2 zIno_len HF.out h9 h23 fun w9 hiv9 hon => hK _ _ (hon.low _ hb9) (fun d u hne hlv ⟨w8, hk8, h8⟩ => ⟨w9, Kept.refl _, ?_⟩) trivial (P4.store 2 (by decide) hp h4 h9 hls hiv9 hon)
          clear hl hK hlv hne hw hwt hp
          dsimp only at h8 ⊢
          split at h8 <;> first | exact h8 | (split <;> first | trivial | (exfalso; simp_all))
        refine AllSteps.cons (StepG.raw rfl fun L a w' K hl hp hls hts hnl hw hwt hK => ?_) ?_
        · obtain ⟨_, _, _, h24⟩ := hl.dep 3 24 rfl rfl
          replace h24 : a.eval (.tmp 24) = _ := h24
          have h4 := hw ⟨7, .data⟩ (by simp) rfl
          obtain ⟨b9, h9, hb9, hiv⟩ := hp.1 3 (by decide) h4
          replace h9 : a.eval (.tmp 6) = _ := h9
          have h12 : L.getD 11 false = false := by
            rw [Array.getD_eq_getD_getElem?] at hnl ⊢
            cases hx : L[11]? with
            | none => rfl
            | some b => rw [hx] at hnl; simp at hnl; rw [hnl]; rfl
          have hiv2 : IV w' b9 zIno := by rw [h12] at hiv; exact hiv
          refine wp_store_ino rfl hiv2 zIno_len HF.out h9 h24 fun w9 hiv9 hon => hK _ _ (hon.low _ hb9) (fun d u hne hlv ⟨w8, hk8, h8⟩ => ⟨w9, Kept.refl _, ?_⟩) trivial (P4.store 3 (by decide) hp h4 h9 hls hiv9 hon)
          clear hl hK hlv hne hw hwt hp
          dsimp only at h8 ⊢
          split at h8 <;> first | exact h8 | (split <;> first | trivial | (exfalso; simp_all))
        exact AllSteps.nil
      · intro f w4 LL hk4 hf hall hpv
        obtain ⟨b3, e3, hB3, hiv3⟩ := hpv.1 0 (by decide) (hall 4 (by decide))
        obtain ⟨b4, e4, hB4, hiv4⟩ := hpv.1 1 (by decide) (hall 5 (by decide))
        obtain ⟨b5, e5, hB5, hiv5⟩ := hpv.1 2 (by decide) (hall 6 (by decide))
        obtain ⟨b6, e6, hB6, hiv6⟩ := hpv.1 3 (by decide) (hall 7 (by decide))
        have n34 := hpv.2 0 1 b3 b4 (by decide) (by decide) (by decide) (hall 4 (by decide)) (hall 5 (by decide)) e3 e4
        have n35 := hpv.2 0 2 b3 b5 (by decide) (by decide) (by decide) (hall 4 (by decide)) (hall 6 (by decide)) e3 e5
        have n36 := hpv.2 0 3 b3 b6 (by decide) (by decide) (by decide) (hall 4 (by decide)) (hall 7 (by decide)) e3 e6
        have n45 := hpv.2 1 2 b4 b5 (by decide) (by decide) (by decide) (hall 5 (by decide)) (hall 6 (by decide)) e4 e5
        have n46 := hpv.2 1 3 b4 b6 (by decide) (by decide) (by decide) (hall 5 (by decide)) (hall 7 (by decide)) e4 e6
        have n56 := hpv.2 2 3 b5 b6 (by decide) (by decide) (by decide) (hall 6 (by decide)) (hall 7 (by decide)) e5 e6
        rw [hall 8 (by decide), if_pos rfl] at hiv3
        rw [hall 9 (by decide), if_pos rfl] at hiv4
        rw [hall 10 (by decide), if_pos rfl] at hiv5
        rw [hall 11 (by decide), if_pos rfl] at hiv6
        simp only [fill, dsts, List.filterMap_cons, List.filterMap_nil, List.foldl_cons, List.foldl_nil, Act.put, List.setIfInBounds_toArray, List.set_cons_succ, List.set_cons_zero] at e3 e4 e5 e6
        replace e3 : f 3 = .pointer (some ⟨b3, 0, none⟩) := e3
        replace e4 : f 4 = .pointer (some ⟨b4, 0, none⟩) := e4
        replace e5 : f 5 = .pointer (some ⟨b5, 0, none⟩) := e5
        replace e6 : f 6 = .pointer (some ⟨b6, 0, none⟩) := e6
        have hlt1 := HLT.out
        have hv3 : Vs w4 [(b1, F), (b3, F), (b4, F), (b5, F), (b6, F)] := by
          refine ⟨?_, ?_, ?_⟩
          · simp only [List.mem_cons, List.not_mem_nil, or_false]
            rintro p (rfl | rfl | rfl | rfl | rfl)
            · exact R1.out.kept hk4 hlt1
            · exact hiv3.1
            · exact hiv4.1
            · exact hiv5.1
            · exact hiv6.1
          · simp only [List.mem_cons, List.not_mem_nil, or_false]
            rintro p (rfl | rfl | rfl | rfl | rfl)
            · exact Nat.lt_of_lt_of_le hlt1 (Below.size hk4)
            · exact hiv3.lt
            · exact hiv4.lt
            · exact hiv5.lt
            · exact hiv6.lt
          · simp only [List.map_cons, List.map_nil, List.nodup_cons, List.mem_cons, List.not_mem_nil, or_false, List.nodup_nil, and_true, not_or, not_false_eq_true]
            omega
        have HBB := Lib.hid (HB.out.trans (Below.mono hk4 HB.out.size))
        have x3 := Nat.le_trans HB.out.size hB3
        have x4 := Nat.le_trans HB.out.size hB4
        have x5 := Nat.le_trans HB.out.size hB5
        have x6 := Nat.le_trans HB.out.size hB6
        have HX := Lib.hid (And.intro x3 (And.intro x4 (And.intro x5 x6)))
        clear hall hpv hf hk4 hiv3 hiv4 hiv5 hiv6 n34 n35 n36 n45 n46 n56 hB3 hB4 hB5 hB6 x3 x4 x5 x6 hlt1
        simp only [Exit.then, fill, dsts, List.filterMap_cons, List.filterMap_nil, List.foldl_cons, List.foldl_nil, Act.put, e3, e4, e5, e6, List.setIfInBounds_toArray, List.set_cons_succ, List.set_cons_zero]
        clear e3 e4 e5 e6
        go_wp2_with (first
          | ((with_reducible show wpList _ _ _ (⟨some 26, _, _, _, _, _⟩ :: _) _ _); refine wpList_load_num rfl _ _ rfl Try.underlying3 (hv3.get 1 rfl) 1 4096 (by rfl) rfl ?_)
          | ((with_reducible show wpList _ _ _ (⟨none, Op.store 3 (.tmp 28) _, _, _, _, _⟩ :: _) _ _); refine wpList_store_num rfl _ _ _ rfl Try.underlying3 (by kernel_rfl) (hv3.get 1 rfl) (by rfl) 1 4097 (by decide) rfl rfl ?_; intro wa hrwa howa hlwa; have hvwa : Vs wa [(b1, F), (b3, (F.set 1 4097)), (b4, F), (b5, F), (b6, F)] := hv3.store 1 rfl hrwa howa)
          | ((with_reducible show wpList _ _ _ (⟨some 30, _, _, _, _, _⟩ :: _) _ _); refine wpList_load_num rfl _ _ rfl Try.underlying3 (hvwa.get 2 rfl) 2 10000 (by rfl) rfl ?_)
          | ((with_reducible show wpList _ _ _ (⟨none, Op.store 3 (.tmp 32) _, _, _, _, _⟩ :: _) _ _); refine wpList_store_num rfl _ _ _ rfl Try.underlying3 (by kernel_rfl) (hvwa.get 2 rfl) (by rfl) 2 10001 (by decide) rfl rfl ?_; intro wb hrwb howb hlwb; have hvwb : Vs wb [(b1, F), (b3, (F.set 1 4097)), (b4, (F.set 2 10001)), (b5, F), (b6, F)] := hvwa.store 2 rfl hrwb howb)
          | ((with_reducible show wpList _ _ _ (⟨some 34, _, _, _, _, _⟩ :: _) _ _); refine wpList_load_num rfl _ _ rfl Try.underlying3 (hvwb.get 3 rfl) 3 16777215 (by rfl) rfl ?_)
          | ((with_reducible show wpList _ _ _ (⟨none, Op.store 3 (.tmp 36) _, _, _, _, _⟩ :: _) _ _); refine wpList_store_num rfl _ _ _ rfl Try.underlying3 (by kernel_rfl) (hvwb.get 3 rfl) (by rfl) 3 16777216 (by decide) rfl rfl ?_; intro wc hrwc howc hlwc; have hvwc : Vs wc [(b1, F), (b3, (F.set 1 4097)), (b4, (F.set 2 10001)), (b5, (F.set 3 16777216)), (b6, F)] := hvwb.store 3 rfl hrwc howc)
          | ((with_reducible show wpList _ _ _ (⟨none, Op.store 3 (.tmp 38) _, _, _, _, _⟩ :: _) _ _); refine wpList_store_num rfl _ _ _ rfl Try.underlying3 (by kernel_rfl) (hvwc.get 4 rfl) (by rfl) 5 1024 (by decide) rfl rfl ?_; intro wd hrwd howd hlwd; have hvwd : Vs wd [(b1, F), (b3, (F.set 1 4097)), (b4, (F.set 2 10001)), (b5, (F.set 3 16777216)), (b6, (F.set 5 1024))] := hvwc.store 4 rfl hrwd howd)
          | ((with_reducible show wpList _ _ _ (⟨some 39, _, _, _, _, _⟩ :: _) _ _); refine wpList_load_ino rfl _ rfl (hvwd.get 0 rfl) (by rfl) rfl ?_)
          | ((with_reducible show wpList _ _ _ (⟨some 7, _, _, _, _, _⟩ :: _) _ _); refine wpList_alloc_ino rfl rfl ?_; intro we hrwe hbwe hltwe; have hvwe : Vs we [(b1, F), (b3, (F.set 1 4097)), (b4, (F.set 2 10001)), (b5, (F.set 3 16777216)), (b6, (F.set 5 1024)), (wd.heap.size, zIno)] := hvwd.alloc hrwe hbwe hltwe)
          | ((with_reducible show wpList _ _ _ (⟨none, Op.store 26 (.tmp 7) _, _, _, _, _⟩ :: _) _ _); refine wpList_store_ino (ys := F) rfl _ _ rfl (hvwe.get 5 rfl) (by rfl) (by rfl) rfl (by rfl) ?_; intro wf hrwf howf; have hvwf : Vs wf [(b1, F), (b3, (F.set 1 4097)), (b4, (F.set 2 10001)), (b5, (F.set 3 16777216)), (b6, (F.set 5 1024)), (wd.heap.size, F)] := hvwe.store 5 rfl hrwf howf)
          | ((with_reducible show wpList _ _ _ (⟨some 42, _, _, _, _, _⟩ :: _) _ _); refine wpList_load_num rfl _ _ rfl Try.underlying3 (hvwf.get 5 rfl) 9 1019 (by rfl) rfl ?_)
          | ((with_reducible show wpList _ _ _ (⟨none, Op.store 3 (.tmp 44) _, _, _, _, _⟩ :: _) _ _); refine wpList_store_num rfl _ _ _ rfl Try.underlying3 (by kernel_rfl) (hvwf.get 5 rfl) (by rfl) 8 1019 (by decide) rfl rfl ?_; intro wg hrwg howg hlwg; have hvwg : Vs wg [(b1, F), (b3, (F.set 1 4097)), (b4, (F.set 2 10001)), (b5, (F.set 3 16777216)), (b6, (F.set 5 1024)), (wd.heap.size, (F.set 8 1019))] := hvwf.store 5 rfl hrwg howg)
          | ((with_reducible show wpList _ _ _ (⟨some 45, _, _, _, _, _⟩ :: _) _ _); refine wpList_load_ino rfl _ rfl (hvwg.get 0 rfl) (by rfl) rfl ?_)
          | ((with_reducible show wpList _ _ _ (⟨some 8, _, _, _, _, _⟩ :: _) _ _); refine wpList_alloc_ino rfl rfl ?_; intro wh hrwh hbwh hltwh; have hvwh : Vs wh [(b1, F), (b3, (F.set 1 4097)), (b4, (F.set 2 10001)), (b5, (F.set 3 16777216)), (b6, (F.set 5 1024)), (wd.heap.size, (F.set 8 1019)), (wg.heap.size, zIno)] := hvwg.alloc hrwh hbwh hltwh)
          | ((with_reducible show wpList _ _ _ (⟨none, Op.store 26 (.tmp 8) _, _, _, _, _⟩ :: _) _ _); refine wpList_store_ino (ys := F) rfl _ _ rfl (hvwh.get 6 rfl) (by rfl) (by rfl) rfl (by rfl) ?_; intro wi hrwi howi; have hvwi : Vs wi [(b1, F), (b3, (F.set 1 4097)), (b4, (F.set 2 10001)), (b5, (F.set 3 16777216)), (b6, (F.set 5 1024)), (wd.heap.size, (F.set 8 1019)), (wg.heap.size, F)] := hvwh.store 6 rfl hrwi howi)
          | ((with_reducible show wpList _ _ _ (⟨none, Op.store 3 (.tmp 46) _, _, _, _, _⟩ :: _) _ _); refine wpList_store_num rfl _ _ _ rfl Try.underlying3 (by kernel_rfl) (hvwi.get 6 rfl) (by rfl) 1 3968 (by decide) rfl rfl ?_; intro wj hrwj howj hlwj; have hvwj : Vs wj [(b1, F), (b3, (F.set 1 4097)), (b4, (F.set 2 10001)), (b5, (F.set 3 16777216)), (b6, (F.set 5 1024)), (wd.heap.size, (F.set 8 1019)), (wg.heap.size, (F.set 1 3968))] := hvwi.store 6 rfl hrwj howj)
          | ((with_reducible show wpList _ _ _ (⟨some 47, _, _, _, _, _⟩ :: _) _ _); refine wpList_val rfl (.agg (ints DD)) _ (by unfold execOp; simp [DD]) ?_)
          | ((with_reducible show wpList _ _ _ (⟨some 9, _, _, _, _, _⟩ :: _) _ _); refine wpList_alloc_ino rfl rfl ?_; intro wk hrwk hbwk hltwk; have hvwk : Vs wk [(b1, F), (b3, (F.set 1 4097)), (b4, (F.set 2 10001)), (b5, (F.set 3 16777216)), (b6, (F.set 5 1024)), (wd.heap.size, (F.set 8 1019)), (wg.heap.size, (F.set 1 3968)), (wj.heap.size, zIno)] := hvwj.alloc hrwk hbwk hltwk)
          | ((with_reducible show wpList _ _ _ (⟨none, Op.store 26 (.tmp 9) _, _, _, _, _⟩ :: _) _ _); refine wpList_store_ino (ys := DD) rfl _ _ rfl (hvwk.get 7 rfl) (by rfl) (by rfl) rfl (by rfl) ?_; intro wl hrwl howl; have hvwl : Vs wl [(b1, F), (b3, (F.set 1 4097)), (b4, (F.set 2 10001)), (b5, (F.set 3 16777216)), (b6, (F.set 5 1024)), (wd.heap.size, (F.set 8 1019)), (wg.heap.size, (F.set 1 3968)), (wj.heap.size, DD)] := hvwk.store 7 rfl hrwl howl)
          | ((with_reducible show wpList _ _ _ (⟨some 48, _, _, _, _, _⟩ :: _) _ _); refine wpList_load_ino rfl _ rfl (hvwl.get 7 rfl) (by rfl) rfl ?_)
          | ((with_reducible show wpList _ _ _ (⟨some 10, _, _, _, _, _⟩ :: _) _ _); refine wpList_alloc_ino rfl rfl ?_; intro wm hrwm hbwm hltwm; have hvwm : Vs wm [(b1, F), (b3, (F.set 1 4097)), (b4, (F.set 2 10001)), (b5, (F.set 3 16777216)), (b6, (F.set 5 1024)), (wd.heap.size, (F.set 8 1019)), (wg.heap.size, (F.set 1 3968)), (wj.heap.size, DD), (wl.heap.size, zIno)] := hvwl.alloc hrwm hbwm hltwm)
          | ((with_reducible show wpList _ _ _ (⟨none, Op.store 26 (.tmp 10) _, _, _, _, _⟩ :: _) _ _); refine wpList_store_ino (ys := DD) rfl _ _ rfl (hvwm.get 8 rfl) (by rfl) (by rfl) rfl (by rfl) ?_; intro wn hrwn hown; have hvwn : Vs wn [(b1, F), (b3, (F.set 1 4097)), (b4, (F.set 2 10001)), (b5, (F.set 3 16777216)), (b6, (F.set 5 1024)), (wd.heap.size, (F.set 8 1019)), (wg.heap.size, (F.set 1 3968)), (wj.heap.size, DD), (wl.heap.size, DD)] := hvwm.store 8 rfl hrwn hown)
          | ((with_reducible show wpList _ _ _ (⟨none, Op.store 3 (.tmp 49) _, _, _, _, _⟩ :: _) _ _); refine wpList_store_num rfl _ _ _ rfl Try.underlying3 (by kernel_rfl) (hvwn.get 8 rfl) (by rfl) 1 128 (by decide) rfl rfl ?_; intro wo hrwo howo hlwo; have hvwo : Vs wo [(b1, F), (b3, (F.set 1 4097)), (b4, (F.set 2 10001)), (b5, (F.set 3 16777216)), (b6, (F.set 5 1024)), (wd.heap.size, (F.set 8 1019)), (wg.heap.size, (F.set 1 3968)), (wj.heap.size, DD), (wl.heap.size, (DD.set 1 128))] := hvwn.store 8 rfl hrwo howo)
          | ((with_reducible show wpList _ _ _ (⟨some 50, _, _, _, _, _⟩ :: _) _ _); refine wpList_load_ino rfl _ rfl (hvwo.get 0 rfl) (by rfl) rfl ?_)
          | ((with_reducible show Calls _ _ #[.agg (ints F)] _ _); go_at_call 14; refine (checkF (by rfl) true c1 _).mono ?_; rintro e wp ⟨rfl, hbwp⟩; have hvwp := hvwo.kept hbwp)
          | ((with_reducible show wpList _ _ _ (⟨some 53, _, _, _, _, _⟩ :: _) _ _); refine wpList_load_ino rfl _ rfl (hvwp.get 1 rfl) (by rfl) rfl ?_)
          | ((with_reducible show Calls _ _ #[.agg (ints (F.set 1 4097))] _ _); go_at_call 14; refine (checkF (by rfl) false c2 _).mono ?_; rintro e wq ⟨rfl, hbwq⟩; have hvwq := hvwp.kept hbwq)
          | ((with_reducible show wpList _ _ _ (⟨some 58, _, _, _, _, _⟩ :: _) _ _); refine wpList_load_ino rfl _ rfl (hvwq.get 2 rfl) (by rfl) rfl ?_)
          | ((with_reducible show Calls _ _ #[.agg (ints (F.set 2 10001))] _ _); go_at_call 14; refine (checkF (by rfl) false c3 _).mono ?_; rintro e wr ⟨rfl, hbwr⟩; have hvwr := hvwq.kept hbwr)
          | ((with_reducible show wpList _ _ _ (⟨some 63, _, _, _, _, _⟩ :: _) _ _); refine wpList_load_ino rfl _ rfl (hvwr.get 3 rfl) (by rfl) rfl ?_)
          | ((with_reducible show Calls _ _ #[.agg (ints (F.set 3 16777216))] _ _); go_at_call 14; refine (checkF (by rfl) false c4 _).mono ?_; rintro e ws ⟨rfl, hbws⟩; have hvws := hvwr.kept hbws)
          | ((with_reducible show wpList _ _ _ (⟨some 68, _, _, _, _, _⟩ :: _) _ _); refine wpList_load_ino rfl _ rfl (hvws.get 4 rfl) (by rfl) rfl ?_)
          | ((with_reducible show Calls _ _ #[.agg (ints (F.set 5 1024))] _ _); go_at_call 14; refine (checkF (by rfl) false c5 _).mono ?_; rintro e wt ⟨rfl, hbwt⟩; have hvwt := hvws.kept hbwt)
          | ((with_reducible show wpList _ _ _ (⟨some 73, _, _, _, _, _⟩ :: _) _ _); refine wpList_load_ino rfl _ rfl (hvwt.get 5 rfl) (by rfl) rfl ?_)
          | ((with_reducible show Calls _ _ #[.agg (ints (F.set 8 1019))] _ _); go_at_call 14; refine (checkF (by rfl) false c6 _).mono ?_; rintro e wu ⟨rfl, hbwu⟩; have hvwu := hvwt.kept hbwu)
          | ((with_reducible show wpList _ _ _ (⟨some 78, _, _, _, _, _⟩ :: _) _ _); refine wpList_load_ino rfl _ rfl (hvwu.get 6 rfl) (by rfl) rfl ?_)
          | ((with_reducible show Calls _ _ #[.agg (ints (F.set 1 3968))] _ _); go_at_call 14; refine (checkF (by rfl) false c7 _).mono ?_; rintro e wv ⟨rfl, hbwv⟩; have hvwv := hvwu.kept hbwv)
          | ((with_reducible show wpList _ _ _ (⟨some 83, _, _, _, _, _⟩ :: _) _ _); refine wpList_load_ino rfl _ rfl (hvwv.get 7 rfl) (by rfl) rfl ?_)
          | ((with_reducible show Calls _ _ #[.agg (ints DD)] _ _); go_at_call 14; refine (checkF (by rfl) true c8 _).mono ?_; rintro e wx ⟨rfl, hbwx⟩; have hvwx := hvwv.kept hbwx)
          | ((with_reducible show wpList _ _ _ (⟨some 87, _, _, _, _, _⟩ :: _) _ _); refine wpList_load_ino rfl _ rfl (hvwx.get 8 rfl) (by rfl) rfl ?_)
          | ((with_reducible show Calls _ _ #[.agg (ints (DD.set 1 128))] _ _); go_at_call 14; refine (checkF (by rfl) false c9 _).mono ?_; rintro e wy ⟨rfl, hbwy⟩; have hvwy := hvwx.kept hbwy)
          | ((with_reducible show wpList _ _ _ (⟨some 92, _, _, _, _, _⟩ :: _) _ _); refine wpList_load_ino rfl _ rfl (hvwy.get 0 rfl) (by rfl) rfl ?_)
          | (go_at_call 16; refine (blocks_any _ (by rfl) _).mono ?_; rintro e wz ⟨rfl, hbwz⟩; rw [cntF])
          | (go_at_call 11; refine (awake_any _).mono ?_; rintro e ww ⟨rfl, hbww⟩))
        go_ret
        have k0 := HBB.out
        have ka := howa.below k0 HX.out.1
        have kb := howb.below ka HX.out.2.1
        have kc := howc.below kb HX.out.2.2.1
        have kd := howd.below kc HX.out.2.2.2
        have ge := kd.size
        have ke := kd.trans (hbwe.mono kd.size)
        have kf := howf.below ke ge
        have kg := howg.below kf ge
        have gh := kg.size
        have kh := kg.trans (hbwh.mono kg.size)
        have ki := howi.below kh gh
        have kj := howj.below ki gh
        have gk := kj.size
        have kk := kj.trans (hbwk.mono kj.size)
        have kl := howl.below kk gk
        have gm := kl.size
        have km := kl.trans (hbwm.mono kl.size)
        have kn := hown.below km gm
        have ko := howo.below kn gm
        have kp := ko.trans (hbwp.mono ko.size)
        have kq := kp.trans (hbwq.mono kp.size)
        have kr := kq.trans (hbwr.mono kq.size)
        have ks := kr.trans (hbws.mono kr.size)
        have kt := ks.trans (hbwt.mono ks.size)
        have ku := kt.trans (hbwu.mono kt.size)
        have kv := ku.trans (hbwv.mono ku.size)
        have kx := kv.trans (hbwx.mono kv.size)
        have ky := kx.trans (hbwy.mono kx.size)
        have kz := ky.trans (hbwz.mono ky.size)
        have kw := kz.trans (hbww.mono kz.size)
        exact ⟨rfl, kw⟩
end Go.Proofs.Ytbhpkknimjmpjaa.In
