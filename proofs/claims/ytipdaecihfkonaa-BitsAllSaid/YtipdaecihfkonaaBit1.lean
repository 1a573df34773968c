/-
  bits: Spans, Free; the stretches of free blocks, plain.
-/
import Derived.Test.YtipdaecihfkonaaBit0
import Derived.Test.YtipdaecihfkonaaSpan1
namespace Go.Proofs.Ytipdaecihfkonaa.Bt
open Go.RowKit Wd By Sp Fl Ga
set_option linter.unusedVariables false

theorem infoC : (Try.prog.info? 46).map (fun i => (i.zero, i.size, i.bytes)) = some (some (.complex .f64 0 0), 1, 16) := by kernel_rfl
/-- is block n free -/
def fr (L : List UInt8) (blocks : Int) (n : Nat) : Bool := decide ((n : Int) < blocks) && !usedB L (n : Int)
/-- behind k rounds: where a stretch began, and the stretches that are closed -/
def spS (L : List UInt8) (blocks : Int) : Nat → Nat × List (Int × Int)
  | 0 => (0, [])
  | k + 1 => if fr L blocks k then spS L blocks k else (k + 1, if (spS L blocks k).1 < k then (spS L blocks k).2 ++ [(((spS L blocks k).1 : Int), (k : Int) - ((spS L blocks k).1 : Int))] else (spS L blocks k).2)
theorem sp_succ (L : List UInt8) (blocks : Int) (k : Nat) : spS L blocks (k + 1) = if fr L blocks k then ((spS L blocks k).1, (spS L blocks k).2) else (k + 1, if (spS L blocks k).1 < k then (spS L blocks k).2 ++ [(((spS L blocks k).1 : Int), (k : Int) - ((spS L blocks k).1 : Int))] else (spS L blocks k).2) := rfl
theorem sp_from (L : List UInt8) (blocks : Int) : ∀ k, (spS L blocks k).1 ≤ k
  | 0 => Nat.le_refl _
  | k + 1 => by
    have := sp_from L blocks k
    rw [sp_succ]
    split
    · simp only; omega
    · exact Nat.le_refl _
theorem sp_len (L : List UInt8) (blocks : Int) : ∀ k, (spS L blocks k).2.length ≤ k
  | 0 => Nat.le_refl _
  | k + 1 => by
    have := sp_len L blocks k
    rw [sp_succ]
    split
    · simp only; omega
    · simp only
      split
      · simp; exact this
      · omega
/-- a stretch's places -/
def ex (p : Int × Int) : List Int := (List.range p.2.toNat).map fun i : Nat => p.1 + (i : Int)
def exs (l : List (Int × Int)) : List Int := l.flatMap ex
def frees (L : List UInt8) (blocks : Int) (k : Nat) : List Int := ((List.range k).filter (fr L blocks)).map fun i : Nat => (i : Int)
theorem exs_append (a b : List (Int × Int)) : exs (a ++ b) = exs a ++ exs b := by simp [exs]
theorem frees_succ (L : List UInt8) (blocks : Int) (k : Nat) : frees L blocks (k + 1) = if fr L blocks k then frees L blocks k ++ [(k : Int)] else frees L blocks k := by
  unfold frees
  rw [List.range_succ, List.filter_append]
  cases h : fr L blocks k <;> simp [h]
theorem ex_succ (f k : Nat) (h : f ≤ k) : ex ((f : Int), ((k + 1 : Nat) : Int) - (f : Int)) = ex ((f : Int), (k : Int) - (f : Int)) ++ [(k : Int)] := by
  unfold ex
  have e1 : (((k + 1 : Nat) : Int) - (f : Int)).toNat = (k - f) + 1 := by omega
  have e2 : ((k : Int) - (f : Int)).toNat = k - f := by omega
  simp only [e1, e2, List.range_succ, List.map_append, List.map_cons, List.map_nil]
  congr 2
  omega
theorem ex_nil (f : Nat) : ex ((f : Int), (f : Int) - (f : Int)) = [] := by simp [ex]
/-- the stretches, and what is open, are the free blocks -/
theorem sp_frees (L : List UInt8) (blocks : Int) : ∀ k, exs (spS L blocks k).2 ++ ex (((spS L blocks k).1 : Int), (k : Int) - ((spS L blocks k).1 : Int)) = frees L blocks k
  | 0 => by simp [spS, exs, frees, ex]
  | k + 1 => by
    have ih := sp_frees L blocks k
    have hf := sp_from L blocks k
    rw [sp_succ, frees_succ]
    split
    · rename_i h
      simp only
      rw [ex_succ _ _ hf, ← List.append_assoc, ih]
    · rename_i h
      simp only
      rw [ex_nil, List.append_nil]
      split
      · rw [exs_append, ← ih]
        simp [exs]
      · rename_i h2
        have e : (spS L blocks k).1 = k := by omega
        rw [← ih, e, ex_nil, List.append_nil]
theorem sp_st (L : List UInt8) (blocks : Int) : ∀ k, k ≤ 1025 → ∀ p ∈ (spS L blocks k).2, St p.1 p.2
  | 0, _ => by simp [spS]
  | k + 1, hk => by
    have ih := sp_st L blocks k (by omega)
    rw [sp_succ]
    split
    · exact ih
    · simp only
      split
      · intro p hp
        rcases List.mem_append.1 hp with h | h
        · exact ih p h
        · rw [List.mem_singleton.1 h]
          unfold St
          simp only
          omega
      · exact ih
/-- where a list ends -/
def endM : Int → List (Int × Int) → Int
  | last, [] => last
  | _, p :: r => endM (p.1 + p.2) r
theorem ord_snoc : ∀ (l : List (Int × Int)) (last : Int) (p : Int × Int), ordM last (l ++ [p]) = (ordM last l && !decide (p.1 + p.2 = 0 ∨ p.1 ≤ endM last l))
  | [], last, p => by
    simp only [List.nil_append, ordM, endM]
    by_cases h : p.1 + p.2 = 0 ∨ p.1 ≤ last <;> simp [h]
  | q :: r, last, p => by
    simp only [List.cons_append, ordM, endM]
    by_cases h : q.1 + q.2 = 0 ∨ q.1 ≤ last
    · simp [h]
    · rw [if_neg h, if_neg h]
      exact ord_snoc r _ p
theorem end_snoc : ∀ (l : List (Int × Int)) (last : Int) (p : Int × Int), endM last (l ++ [p]) = p.1 + p.2
  | [], _, _ => rfl
  | _ :: r, _, p => end_snoc r _ p
theorem sp_ord (L : List UInt8) (blocks : Int) : ∀ k, ordM (-1) (spS L blocks k).2 = true ∧ endM (-1) (spS L blocks k).2 < ((spS L blocks k).1 : Int)
  | 0 => by simp [spS, ordM, endM]
  | k + 1 => by
    have ih := sp_ord L blocks k
    have hf := sp_from L blocks k
    rw [sp_succ]
    split
    · exact ih
    · simp only
      split
      · rename_i h2
        rw [ord_snoc, end_snoc, ih.1]
        refine ⟨?_, by omega⟩
        simp only [Bool.true_and, Bool.not_eq_true', decide_eq_false_iff_not]
        omega
      · exact ⟨ih.1, by omega⟩
theorem ex_len (p : Int × Int) (h : 0 ≤ p.2) : ((ex p).length : Int) = p.2 := by simp [ex]; omega
theorem exs_len : ∀ l : List (Int × Int), (∀ p ∈ l, 0 ≤ p.2) → ((exs l).length : Int) = sumP l
  | [], _ => rfl
  | p :: r, h => by
    have := exs_len r fun q hq => h q (by simp [hq])
    have h2 := ex_len p (h p (by simp))
    simp only [exs, List.flatMap_cons, List.length_append, sumP] at this ⊢
    omega
/-- a list of stretches that is handed back -/
def SpR (w : World) (l : List (Int × Int)) (e : Ending) (w' : World) : Prop :=
  ∃ A c, e = .returned (.slice A l.length c) ∧ Sl w' w'.heap.size 1 A l.length (l.map cv) ∧ l.length ≤ c ∧ Below w.heap.size w w'
theorem spr_own {w w' : World} {l : List (Int × Int)} {v : Value} {B : Nat} {e : TypeId} (h : w'.ownsRow B e 1 v l.length (l.map cv)) (hb : Below w.heap.size w w') : SpR w l (.returned v) w' := by
  obtain ⟨A, c, rfl, h1, h2, h3⟩ := Mine.form (.inr h)
  exact ⟨A, c, rfl, h3, h1, hb⟩

set_option maxHeartbeats 800000 in
theorem spans_mid (A : Option Addr) (L : List UInt8) (c : Nat) (N : Nat) (hN : N ≤ 1024) (hN1 : 1 ≤ N) (w : World) (hs : Sl w w.heap.size 1 A L.length (L.map bv)) (hlc : L.length ≤ c) :
    Calls Try.prog 23 #[.slice A L.length c, .int .i64 (N : Int)] w (SpR w (spS L (N : Int) (N + 1)).2) := by
  obtain ⟨i0, hi0, hz0, hz1, hz2⟩ := info_parts infoC
  have HS := Lib.hid hs
  clear hs
  have hN1I : (1 : Int) ≤ (N : Int) := by omega
  have hN2I : (0 : Int) < (N : Int) := by omega
  have hNp : 0 < N := by omega
  have hNI : (N : Int) ≤ 1024 := by omega
  have hN0 : (0 : Int) ≤ (N : Int) := by omega
  go_enter Try.func23, Try.ntmps23
  go_wp2_with fail
  go_loopw [14, 5, 6] (fun i v f wr => ∃ k : Nat, k ≤ N + 1 ∧ i = .int .i64 (k : Int) ∧ f = .int .i64 (((spS L (N : Int) k).1 : Nat) : Int) ∧ wr.ownsRow w.heap.size 46 1 v (spS L (N : Int) k).2.length ((spS L (N : Int) k).2.map cv) ∧ Below w.heap.size w wr) (fun i _ _ _ => N + 1 - (intOf i).toNat)
  case atStart => exact ⟨0, by omega, rfl, rfl, World.ownsRow_nil _ _ _ _, Below.refl _ _⟩
  case round =>
    obtain ⟨k, hk, rfl, rfl, hown, hbel⟩ := hrel
    have HO := Lib.hid hown
    have HBR := Lib.hid hbel
    have hB := hbel.size
    clear hown hbel
    have hfk := sp_from L (N : Int) k
    have hln := sp_len L (N : Int) k
    have HU := Lib.hid (fun n => used_any A L c n wr (HS.out.on (Nat.le_refl _) HBR.out))
    by_cases hlt : k < N + 1
    · have hltI : (k : Int) < (N : Int) + 1 := by omega
      have hk0 : (0 : Int) ≤ (k : Int) := by omega
      have hk10 : (k : Int) ≤ 1024 := by omega
      have HX := Lib.hid (sp_succ L (N : Int) k)
      obtain ⟨f, hf⟩ : ∃ f, f = (spS L (N : Int) k).1 := ⟨_, rfl⟩
      rw [← hf] at hfk ⊢ HX
      have HF := Lib.hid hf
      clear hf
      have hfI : (f : Int) ≤ (k : Int) := by omega
      have hf0 : (0 : Int) ≤ (f : Int) := by omega
      by_cases hfree : (k : Int) < (N : Int) ∧ usedB L (k : Int) = false
      · obtain ⟨h1, h2⟩ := hfree
        have hX : spS L (N : Int) (k + 1) = (f, (spS L (N : Int) k).2) := by rw [HX.out, if_pos (by unfold fr; simp [h1, h2])]
        have HXX := Lib.hid hX
        replace HU := Lib.hid (HU.out (k : Int))
        rw [h2] at HU
        clear hX h2
        go_wp2_with fail
        refine HU.out.mono ?_
        rintro e w' ⟨rfl, rfl⟩
        go_wp2_with fail
        go_roundw
        case rel => exact ⟨k + 1, by omega, by go_num, by rw [HXX.out], by rw [HXX.out]; exact HO.out, HBR.out⟩
        case measure => simp [intOf]; omega
      · have hX : spS L (N : Int) (k + 1) = (k + 1, if f < k then (spS L (N : Int) k).2 ++ [((f : Int), (k : Int) - (f : Int))] else (spS L (N : Int) k).2) := by
          rw [HX.out, if_neg (by unfold fr; intro h; simp at h; exact hfree ⟨by omega, h.2⟩)]
        have HXX := Lib.hid hX
        clear hX
        by_cases hfl : f < k
        · have SM := Lib.hid (fun w => smake_yes (a := (f : Int)) (n := (k : Int) - (f : Int)) (by unfold St; omega) w)
          have hlen : (spS L (N : Int) (k + 1)).2.length = (spS L (N : Int) k).2.length + 1 := by rw [HXX.out, if_pos hfl]; simp
          have hmap : (spS L (N : Int) (k + 1)).2.map cv = (spS L (N : Int) k).2.map cv ++ [.complex .f64 (fz (f : Int)) (fz ((k : Int) - (f : Int)))] := by rw [HXX.out, if_pos hfl, List.map_append]; rfl
          have hfst : (spS L (N : Int) (k + 1)).1 = k + 1 := by rw [HXX.out]
          have HL := Lib.hid hlen
          have HM := Lib.hid hmap
          have H1 := Lib.hid hfst
          clear hlen hmap hfst hfl
          generalize fz (f : Int) = fa at *
          generalize fz ((k : Int) - (f : Int)) = fn at *
          by_cases hkb : (k : Int) < (N : Int)
          · have hus : usedB L (k : Int) = true := by cases h : usedB L (k : Int); exact absurd ⟨hkb, h⟩ hfree; rfl
            replace HU := Lib.hid (HU.out (k : Int))
            rw [hus] at HU
            clear hus hfree
            go_wp2_with fail
            refine HU.out.mono ?_
            rintro e w' ⟨rfl, rfl⟩
            go_wp2_with fail
            refine (SM.out _).mono ?_
            rintro e w' ⟨rfl, rfl⟩
            go_wp2_with (at_builtin; refine wpList_append_mine rfl (.tmp 35) (.tmp 37) _ _ rfl w.heap.size 46 i0 (.complex .f64 0 0) 1 16 hz1 hz2 rfl (by decide) _ _ _ rfl (Mine.alloc (.inr HO.out) _) _ 1 [.complex .f64 fa fn] rfl (Gives.elem Try.underlying41 hi0 hz0 hz1 _ rfl) (by simp only [maxLen]; omega) (by omega) (by simp; omega) ?_; intro A2 c2 w2 hm2 hg2 hb2 hat2 hown2)
            have ho := hown2 (.inl (by decide))
            have HOO := Lib.hid ho
            have HB2 := Lib.hid hb2
            clear ho hown2 hat2 hg2 hm2 hb2
            go_wp2_with fail
            go_roundw
            case rel => exact ⟨k + 1, by omega, by go_num, by rw [H1.out]; go_num, by rw [HL.out, HM.out]; exact HOO.out, (HBR.out.alloc hB _).trans HB2.out⟩
            case measure => simp [intOf]; omega
          · clear hfree HU
            go_wp2_with fail
            refine (SM.out _).mono ?_
            rintro e w' ⟨rfl, rfl⟩
            go_wp2_with (at_builtin; refine wpList_append_mine rfl (.tmp 35) (.tmp 37) _ _ rfl w.heap.size 46 i0 (.complex .f64 0 0) 1 16 hz1 hz2 rfl (by decide) _ _ _ rfl (Mine.alloc (.inr HO.out) _) _ 1 [.complex .f64 fa fn] rfl (Gives.elem Try.underlying41 hi0 hz0 hz1 _ rfl) (by simp only [maxLen]; omega) (by omega) (by simp; omega) ?_; intro A2 c2 w2 hm2 hg2 hb2 hat2 hown2)
            have ho := hown2 (.inl (by decide))
            have HOO := Lib.hid ho
            have HB2 := Lib.hid hb2
            clear ho hown2 hat2 hg2 hm2 hb2
            go_wp2_with fail
            go_roundw
            case rel => exact ⟨k + 1, by omega, by go_num, by rw [H1.out]; go_num, by rw [HL.out, HM.out]; exact HOO.out, (HBR.out.alloc hB _).trans HB2.out⟩
            case measure => simp [intOf]; omega
        · have SM := Lib.hid (fun w => smake_no (a := (f : Int)) (n := (k : Int) - (f : Int)) (by unfold St; omega) w)
          have hsnd : (spS L (N : Int) (k + 1)).2 = (spS L (N : Int) k).2 := by rw [HXX.out, if_neg hfl]
          have hfst : (spS L (N : Int) (k + 1)).1 = k + 1 := by rw [HXX.out]
          have HL := Lib.hid hsnd
          have H1 := Lib.hid hfst
          clear hsnd hfst hfl
          by_cases hkb : (k : Int) < (N : Int)
          · have hus : usedB L (k : Int) = true := by cases h : usedB L (k : Int); exact absurd ⟨hkb, h⟩ hfree; rfl
            replace HU := Lib.hid (HU.out (k : Int))
            rw [hus] at HU
            clear hus hfree
            go_wp2_with fail
            refine HU.out.mono ?_
            rintro e w' ⟨rfl, rfl⟩
            go_wp2_with fail
            refine (SM.out _).mono ?_
            rintro e w' ⟨rfl, rfl⟩
            go_wp2_with fail
            go_roundw
            case rel => exact ⟨k + 1, by omega, by go_num, by rw [H1.out]; go_num, by rw [HL.out]; exact HO.out, HBR.out⟩
            case measure => simp [intOf]; omega
          · clear hfree HU
            go_wp2_with fail
            refine (SM.out _).mono ?_
            rintro e w' ⟨rfl, rfl⟩
            go_wp2_with fail
            go_roundw
            case rel => exact ⟨k + 1, by omega, by go_num, by rw [H1.out]; go_num, by rw [HL.out]; exact HO.out, HBR.out⟩
            case measure => simp [intOf]; omega
    · have hge : (N : Int) + 1 ≤ (k : Int) := by omega
      obtain rfl : k = N + 1 := by omega
      go_wp2_with fail
      go_ret
      exact spr_own HO.out HBR.out

set_option maxHeartbeats 800000 in
theorem spans_neg (A : Option Addr) (L : List UInt8) (c : Nat) (blocks : Int) (hb : blocks ≤ 0) (w : World) (hs : Sl w w.heap.size 1 A L.length (L.map bv)) (hlc : L.length ≤ c) :
    Calls Try.prog 23 #[.slice A L.length c, .int .i64 blocks] w (SpR w (spS L blocks (0 + 1)).2) := by
  obtain ⟨i0, hi0, hz0, hz1, hz2⟩ := info_parts infoC
  have HS := Lib.hid hs
  clear hs

  go_enter Try.func23, Try.ntmps23
  go_wp2_with fail
  go_loopw [14, 5, 6] (fun i v f wr => ∃ k : Nat, k ≤ 0 + 1 ∧ i = .int .i64 (k : Int) ∧ f = .int .i64 (((spS L blocks k).1 : Nat) : Int) ∧ wr.ownsRow w.heap.size 46 1 v (spS L blocks k).2.length ((spS L blocks k).2.map cv) ∧ Below w.heap.size w wr) (fun i _ _ _ => 0 + 1 - (intOf i).toNat)
  case atStart => exact ⟨0, by omega, rfl, rfl, World.ownsRow_nil _ _ _ _, Below.refl _ _⟩
  case round =>
    obtain ⟨k, hk, rfl, rfl, hown, hbel⟩ := hrel
    have HO := Lib.hid hown
    have HBR := Lib.hid hbel
    have hB := hbel.size
    clear hown hbel
    have hfk := sp_from L blocks k
    have hln := sp_len L blocks k
    have HU := Lib.hid (fun n => used_any A L c n wr (HS.out.on (Nat.le_refl _) HBR.out))
    by_cases hlt : k < 0 + 1
    · have hltI : (k : Int) < 1 := by omega
      have hk0 : (0 : Int) ≤ (k : Int) := by omega
      have hk10 : (k : Int) ≤ 1024 := by omega
      have HX := Lib.hid (sp_succ L blocks k)
      obtain ⟨f, hf⟩ : ∃ f, f = (spS L blocks k).1 := ⟨_, rfl⟩
      rw [← hf] at hfk ⊢ HX
      have HF := Lib.hid hf
      clear hf
      have hfI : (f : Int) ≤ (k : Int) := by omega
      have hf0 : (0 : Int) ≤ (f : Int) := by omega
      by_cases hfree : (k : Int) < blocks ∧ usedB L (k : Int) = false
      · exfalso; omega
      · have hX : spS L blocks (k + 1) = (k + 1, if f < k then (spS L blocks k).2 ++ [((f : Int), (k : Int) - (f : Int))] else (spS L blocks k).2) := by
          rw [HX.out, if_neg (by unfold fr; intro h; simp at h; exact hfree ⟨by omega, h.2⟩)]
        have HXX := Lib.hid hX
        clear hX
        by_cases hfl : f < k
        · exfalso; omega
        · have SM := Lib.hid (fun w => smake_no (a := (f : Int)) (n := (k : Int) - (f : Int)) (by unfold St; omega) w)
          have hsnd : (spS L blocks (k + 1)).2 = (spS L blocks k).2 := by rw [HXX.out, if_neg hfl]
          have hfst : (spS L blocks (k + 1)).1 = k + 1 := by rw [HXX.out]
          have HL := Lib.hid hsnd
          have H1 := Lib.hid hfst
          clear hsnd hfst hfl
          by_cases hkb : (k : Int) < blocks
          · exfalso; omega
          · clear hfree HU
            go_wp2_with fail
            refine (SM.out _).mono ?_
            rintro e w' ⟨rfl, rfl⟩
            go_wp2_with fail
            go_roundw
            case rel => exact ⟨k + 1, by omega, by go_num, by rw [H1.out]; go_num, by rw [HL.out]; exact HO.out, HBR.out⟩
            case measure => simp [intOf]; omega
    · have hge : (1 : Int) ≤ (k : Int) := by omega
      obtain rfl : k = 0 + 1 := by omega
      go_wp2_with fail
      go_ret
      exact spr_own HO.out HBR.out

set_option maxHeartbeats 800000 in
theorem spans_big (A : Option Addr) (L : List UInt8) (c : Nat) (blocks : Int) (hb : 1024 < blocks) (w : World) (hs : Sl w w.heap.size 1 A L.length (L.map bv)) (hlc : L.length ≤ c) :
    Calls Try.prog 23 #[.slice A L.length c, .int .i64 blocks] w (SpR w (spS L blocks (1024 + 1)).2) := by
  obtain ⟨i0, hi0, hz0, hz1, hz2⟩ := info_parts infoC
  have HS := Lib.hid hs
  clear hs

  go_enter Try.func23, Try.ntmps23
  go_wp2_with fail
  go_loopw [14, 5, 6] (fun i v f wr => ∃ k : Nat, k ≤ 1024 + 1 ∧ i = .int .i64 (k : Int) ∧ f = .int .i64 (((spS L blocks k).1 : Nat) : Int) ∧ wr.ownsRow w.heap.size 46 1 v (spS L blocks k).2.length ((spS L blocks k).2.map cv) ∧ Below w.heap.size w wr) (fun i _ _ _ => 1024 + 1 - (intOf i).toNat)
  case atStart => exact ⟨0, by omega, rfl, rfl, World.ownsRow_nil _ _ _ _, Below.refl _ _⟩
  case round =>
    obtain ⟨k, hk, rfl, rfl, hown, hbel⟩ := hrel
    have HO := Lib.hid hown
    have HBR := Lib.hid hbel
    have hB := hbel.size
    clear hown hbel
    have hfk := sp_from L blocks k
    have hln := sp_len L blocks k
    have HU := Lib.hid (fun n => used_any A L c n wr (HS.out.on (Nat.le_refl _) HBR.out))
    by_cases hlt : k < 1024 + 1
    · have hltI : (k : Int) < 1025 := by omega
      have hk0 : (0 : Int) ≤ (k : Int) := by omega
      have hk10 : (k : Int) ≤ 1024 := by omega
      have HX := Lib.hid (sp_succ L blocks k)
      obtain ⟨f, hf⟩ : ∃ f, f = (spS L blocks k).1 := ⟨_, rfl⟩
      rw [← hf] at hfk ⊢ HX
      have HF := Lib.hid hf
      clear hf
      have hfI : (f : Int) ≤ (k : Int) := by omega
      have hf0 : (0 : Int) ≤ (f : Int) := by omega
      by_cases hfree : (k : Int) < blocks ∧ usedB L (k : Int) = false
      · obtain ⟨h1, h2⟩ := hfree
        have hX : spS L blocks (k + 1) = (f, (spS L blocks k).2) := by rw [HX.out, if_pos (by unfold fr; simp [h1, h2])]
        have HXX := Lib.hid hX
        replace HU := Lib.hid (HU.out (k : Int))
        rw [h2] at HU
        clear hX h2
        go_wp2_with fail
        refine HU.out.mono ?_
        rintro e w' ⟨rfl, rfl⟩
        go_wp2_with fail
        go_roundw
        case rel => exact ⟨k + 1, by omega, by go_num, by rw [HXX.out], by rw [HXX.out]; exact HO.out, HBR.out⟩
        case measure => simp [intOf]; omega
      · have hX : spS L blocks (k + 1) = (k + 1, if f < k then (spS L blocks k).2 ++ [((f : Int), (k : Int) - (f : Int))] else (spS L blocks k).2) := by
          rw [HX.out, if_neg (by unfold fr; intro h; simp at h; exact hfree ⟨by omega, h.2⟩)]
        have HXX := Lib.hid hX
        clear hX
        by_cases hfl : f < k
        · have SM := Lib.hid (fun w => smake_yes (a := (f : Int)) (n := (k : Int) - (f : Int)) (by unfold St; omega) w)
          have hlen : (spS L blocks (k + 1)).2.length = (spS L blocks k).2.length + 1 := by rw [HXX.out, if_pos hfl]; simp
          have hmap : (spS L blocks (k + 1)).2.map cv = (spS L blocks k).2.map cv ++ [.complex .f64 (fz (f : Int)) (fz ((k : Int) - (f : Int)))] := by rw [HXX.out, if_pos hfl, List.map_append]; rfl
          have hfst : (spS L blocks (k + 1)).1 = k + 1 := by rw [HXX.out]
          have HL := Lib.hid hlen
          have HM := Lib.hid hmap
          have H1 := Lib.hid hfst
          clear hlen hmap hfst hfl
          generalize fz (f : Int) = fa at *
          generalize fz ((k : Int) - (f : Int)) = fn at *
          by_cases hkb : (k : Int) < blocks
          · have hus : usedB L (k : Int) = true := by cases h : usedB L (k : Int); exact absurd ⟨hkb, h⟩ hfree; rfl
            replace HU := Lib.hid (HU.out (k : Int))
            rw [hus] at HU
            clear hus hfree
            go_wp2_with fail
            refine HU.out.mono ?_
            rintro e w' ⟨rfl, rfl⟩
            go_wp2_with fail
            refine (SM.out _).mono ?_
            rintro e w' ⟨rfl, rfl⟩
            go_wp2_with (at_builtin; refine wpList_append_mine rfl (.tmp 35) (.tmp 37) _ _ rfl w.heap.size 46 i0 (.complex .f64 0 0) 1 16 hz1 hz2 rfl (by decide) _ _ _ rfl (Mine.alloc (.inr HO.out) _) _ 1 [.complex .f64 fa fn] rfl (Gives.elem Try.underlying41 hi0 hz0 hz1 _ rfl) (by simp only [maxLen]; omega) (by omega) (by simp; omega) ?_; intro A2 c2 w2 hm2 hg2 hb2 hat2 hown2)
            have ho := hown2 (.inl (by decide))
            have HOO := Lib.hid ho
            have HB2 := Lib.hid hb2
            clear ho hown2 hat2 hg2 hm2 hb2
            go_wp2_with fail
            go_roundw
            case rel => exact ⟨k + 1, by omega, by go_num, by rw [H1.out]; go_num, by rw [HL.out, HM.out]; exact HOO.out, (HBR.out.alloc hB _).trans HB2.out⟩
            case measure => simp [intOf]; omega
          · exfalso; omega
        · have SM := Lib.hid (fun w => smake_no (a := (f : Int)) (n := (k : Int) - (f : Int)) (by unfold St; omega) w)
          have hsnd : (spS L blocks (k + 1)).2 = (spS L blocks k).2 := by rw [HXX.out, if_neg hfl]
          have hfst : (spS L blocks (k + 1)).1 = k + 1 := by rw [HXX.out]
          have HL := Lib.hid hsnd
          have H1 := Lib.hid hfst
          clear hsnd hfst hfl
          by_cases hkb : (k : Int) < blocks
          · have hus : usedB L (k : Int) = true := by cases h : usedB L (k : Int); exact absurd ⟨hkb, h⟩ hfree; rfl
            replace HU := Lib.hid (HU.out (k : Int))
            rw [hus] at HU
            clear hus hfree
            go_wp2_with fail
            refine HU.out.mono ?_
            rintro e w' ⟨rfl, rfl⟩
            go_wp2_with fail
            refine (SM.out _).mono ?_
            rintro e w' ⟨rfl, rfl⟩
            go_wp2_with fail
            go_roundw
            case rel => exact ⟨k + 1, by omega, by go_num, by rw [H1.out]; go_num, by rw [HL.out]; exact HO.out, HBR.out⟩
            case measure => simp [intOf]; omega
          · exfalso; omega
    · have hge : (1025 : Int) ≤ (k : Int) := by omega
      obtain rfl : k = 1024 + 1 := by omega
      go_wp2_with fail
      go_ret
      exact spr_own HO.out HBR.out

/-- how many blocks are looked at -/
def top (blocks : Int) : Nat := (max 0 (min blocks 1024)).toNat
def spans (L : List UInt8) (blocks : Int) : List (Int × Int) := (spS L blocks (top blocks + 1)).2
theorem spans_any (A : Option Addr) (L : List UInt8) (c : Nat) (blocks : Int) (w : World) (hs : Sl w w.heap.size 1 A L.length (L.map bv)) (hlc : L.length ≤ c) :
    Calls Try.prog 23 #[.slice A L.length c, .int .i64 blocks] w (SpR w (spans L blocks)) := by
  unfold spans
  by_cases h1 : blocks ≤ 0
  · rw [show top blocks = 0 by unfold top; omega]
    exact spans_neg A L c blocks h1 w hs hlc
  · by_cases h2 : 1024 < blocks
    · rw [show top blocks = 1024 by unfold top; omega]
      exact spans_big A L c blocks h2 w hs hlc
    · obtain ⟨N, rfl⟩ := Int.eq_ofNat_of_zero_le (show 0 ≤ blocks by omega)
      rw [show top (N : Int) = N by unfold top; omega]
      exact spans_mid A L c N (by omega) (by omega) w hs hlc
theorem fr_top (L : List UInt8) (blocks : Int) : fr L blocks (top blocks) = false := by
  unfold fr
  by_cases h : blocks ≤ 1024
  · have : ¬ ((top blocks : Int) < blocks) := by unfold top; omega
    simp [this]
  · have e : top blocks = 1024 := by unfold top; omega
    have : usedB L ((1024 : Nat) : Int) = true := by unfold usedB; simp
    rw [e, this]
    simp
theorem top_le (blocks : Int) : top blocks ≤ 1024 := by unfold top; omega
theorem spans_frees (L : List UInt8) (blocks : Int) : exs (spans L blocks) = frees L blocks (top blocks) := by
  have h := sp_frees L blocks (top blocks + 1)
  have h2 : (spS L blocks (top blocks + 1)).1 = top blocks + 1 := by
    rw [sp_succ, fr_top]
    simp
  rw [h2, ex_nil, List.append_nil, frees_succ, fr_top] at h
  exact h
theorem spans_st (L : List UInt8) (blocks : Int) : ∀ p ∈ spans L blocks, St p.1 p.2 := sp_st L blocks _ (by have := top_le blocks; omega)
theorem spans_sz (L : List UInt8) (blocks : Int) : ∀ p ∈ spans L blocks, SZ p := fun p hp => .inl (spans_st L blocks p hp)
theorem spans_ord (L : List UInt8) (blocks : Int) : orderedB (spans L blocks) = true := (sp_ord L blocks _).1
theorem spans_len (L : List UInt8) (blocks : Int) : (spans L blocks).length ≤ 1025 := Nat.le_trans (sp_len L blocks _) (by have := top_le blocks; omega)
theorem spans_sum (L : List UInt8) (blocks : Int) : sumM (spans L blocks) = ((frees L blocks (top blocks)).length : Int) := by
  unfold sumM
  rw [spans_ord, if_pos rfl, ← exs_len _ (fun p hp => by have := spans_st L blocks p hp; unfold St at this; omega), spans_frees]
end Go.Proofs.Ytipdaecihfkonaa.Bt
