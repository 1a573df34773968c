/-
  bits.Take.
-/
import Derived.Test.YtipdaecihfkonaaBit2
import Derived.Test.YtipdaecihfkonaaSpan2
namespace Go.Proofs.Ytipdaecihfkonaa.Bt
open Fl Sp Go.RowKit Wd
set_option linter.unusedVariables false

/-! ### the first places of a list of stretches -/
theorem ex_take (p : Int × Int) (n : Int) (h0 : 0 ≤ n) (hp : 0 ≤ p.2) : exs (fstM n p) = (ex p).take n.toNat := by
  unfold fstM
  have hat : atM n p = min (p.1 + p.2) (p.1 + n) := rfl
  split
  · rename_i h
    show ex (p.1, atM n p - p.1) ++ [] = _
    rw [List.append_nil]
    unfold ex
    simp only
    rw [← List.map_take, List.take_range]
    congr 2
    omega
  · rename_i h
    unfold ex
    rw [← List.map_take, List.take_range]
    have : min n.toNat p.2.toNat = 0 := by omega
    rw [this]
    rfl
theorem exs_cut : ∀ (l : List (Int × Int)) (n : Int), 0 ≤ n → (∀ p ∈ l, 0 ≤ p.2) → exs (cutM n l).1 = (exs l).take n.toNat
  | [], n, _, _ => by simp [cutM, exs]
  | p :: r, n, h0, hp => by
    have hp0 := hp p (by simp)
    have hat : atM n p = min (p.1 + p.2) (p.1 + n) := rfl
    have ih := exs_cut r (n - (atM n p - p.1)) (by omega) fun q hq => hp q (by simp [hq])
    show exs (fstM n p ++ (cutM (n - (atM n p - p.1)) r).1) = ((ex p) ++ exs r).take n.toNat
    rw [exs_append, ih, ex_take p n h0 hp0, List.take_append]
    congr 2
    have := ex_len p hp0
    omega
theorem cut_st : ∀ (l : List (Int × Int)) (n : Int), (∀ p ∈ l, St p.1 p.2) → ∀ p ∈ (cutM n l).1, St p.1 p.2
  | [], n, _ => by simp [cutM]
  | p :: r, n, h => by
    intro q hq
    have hp := h p (by simp)
    rcases List.mem_append.1 (show q ∈ fstM n p ++ (cutM (n - (atM n p - p.1)) r).1 from hq) with h1 | h1
    · have hat : atM n p = min (p.1 + p.2) (p.1 + n) := rfl
      unfold fstM at h1
      split at h1
      · rw [List.mem_singleton.1 h1]
        unfold St at hp ⊢
        simp only
        omega
      · cases h1
    · exact cut_st r _ (fun q hq => h q (by simp [hq])) q h1
theorem ex_cons (a n : Int) (h : 0 < n) : ex (a, n) = a :: ex (a + 1, n - 1) := by
  unfold ex
  simp only
  have : n.toNat = (n - 1).toNat + 1 := by omega
  rw [this, List.range_succ_eq_map, List.map_cons, List.map_map]
  simp only [Int.ofNat_zero, Int.add_zero, List.cons.injEq, true_and]
  congr 1
  funext i
  simp only [Function.comp, Nat.succ_eq_add_one]
  omega
theorem ex_end (a n : Int) (h : n ≤ 0) : ex (a, n) = [] := by
  unfold ex
  have : n.toNat = 0 := by omega
  simp [this]
theorem exs_drop {l : List (Int × Int)} {k : Nat} {p : Int × Int} (h : l[k]? = some p) : exs (l.drop k) = ex p ++ exs (l.drop (k + 1)) := by
  have hlt : k < l.length := (List.getElem?_eq_some_iff.1 h).1
  have he : l[k] = p := (List.getElem?_eq_some_iff.1 h).2
  rw [List.drop_eq_getElem_cons hlt, he]
  rfl
/-! ### Cut, whatever it is asked -/
def CutQ (w : World) (a b : List (Int × Int)) (ok : Bool) (e : Ending) (w' : World) : Prop :=
  ∃ A1 c1 A2 c2, e = .returned (.tuple #[.slice A1 a.length c1, .slice A2 b.length c2, .bool ok]) ∧ Sl w' w'.heap.size 1 A1 a.length (a.map cv) ∧ a.length ≤ c1 ∧ Sl w' w'.heap.size 1 A2 b.length (b.map cv) ∧ b.length ≤ c2 ∧ Below w.heap.size w w'
def okB (n : Int) (l : List (Int × Int)) : Bool := decide (orderedB l = true ∧ 0 ≤ n ∧ n ≤ sumM l)
theorem cut_any (A : Option Addr) (l : List (Int × Int)) (c : Nat) (n : Int) (w : World) (hl : ∀ p ∈ l, SZ p) (hs : Sl w w.heap.size 1 A l.length (l.map cv)) (hk : l.length ≤ 1000000) :
    Calls Try.prog 28 #[.slice A l.length c, .int .i64 n] w (CutQ w (if okB n l then (cutM n l).1 else []) (if okB n l then (cutM n l).2 else []) (okB n l)) := by
  by_cases h : orderedB l = true ∧ 0 ≤ n ∧ n ≤ sumM l
  · have e : okB n l = true := decide_eq_true h
    rw [e, if_pos rfl, if_pos rfl]
    exact cut_yes A l c n w hl hs hk h.1 h.2.1 h.2.2
  · have e : okB n l = false := decide_eq_false h
    rw [e, if_neg (by decide), if_neg (by decide)]
    refine (cut_no A l c n w hl hs (by omega) h).mono ?_
    rintro e w' ⟨rfl, rfl⟩
    exact ⟨none, 0, none, 0, rfl, Sl.nil _, by simp, Sl.nil _, by simp, Below.refl _ _⟩
/-! ### Take -/
def TakeR (w : World) (l : List Int) (ok : Bool) (e : Ending) (w' : World) : Prop :=
  ∃ A c, e = .returned (.tuple #[.slice A l.length c, .bool ok]) ∧ Sl w' w'.heap.size 1 A l.length (l.map (Value.int .i64)) ∧ l.length ≤ c ∧ w'.ownsRow w.heap.size 3 1 (.slice A l.length c) l.length (l.map (Value.int .i64)) ∧ Below w.heap.size w w'
theorem infoI : (Try.prog.info? 3).map (fun i => (i.zero, i.size, i.bytes)) = some (some (.int .i64 0), 1, 8) := by kernel_rfl
set_option maxHeartbeats 1600000 in
theorem take_walk (A : Option Addr) (L : List UInt8) (c : Nat) (blocks n : Int) (w : World) (hs : Sl w w.heap.size 1 A L.length (L.map bv)) (hlc : L.length ≤ c) (F : List (Int × Int)) (ok : Bool) (T : List Int)
    (hF : F = if okB n (spans L blocks) then (cutM n (spans L blocks)).1 else []) (hok : ok = okB n (spans L blocks)) (hT : T = exs F) (hst : ∀ p ∈ F, St p.1 p.2) (hFl : F.length ≤ 1000000) (hTl : T.length ≤ 1000000) :
    Calls Try.prog 20 #[.slice A L.length c, .int .i64 blocks, .int .i64 n] w (TakeR w T ok) := by
  obtain ⟨i0, hi0, hz0, hz1, hz2⟩ := info_parts infoI
  have HP := Lib.hid (spans_any A L c blocks w hs hlc)
  have HC := Lib.hid (fun A c w hs => cut_any A (spans L blocks) c n w (spans_sz L blocks) hs (by have := spans_len L blocks; omega))
  obtain ⟨R, hR⟩ : ∃ R, R = if okB n (spans L blocks) then (cutM n (spans L blocks)).2 else [] := ⟨_, rfl⟩
  rw [← hR, ← hF, ← hok] at HC
  clear hR
  have HT := Lib.hid hT
  have HST := Lib.hid hst
  clear hF hok hT hs hst
  generalize spans L blocks = sp at *
  go_enter Try.func20, Try.ntmps20
  go_wp2_with fail
  refine HP.out.mono ?_
  rintro e w1 ⟨A1, c1, rfl, hs1, hc1, hb1⟩
  have HS1 := Lib.hid hs1
  have HB1 := Lib.hid hb1
  clear hs1 hb1
  go_wp2_with fail
  refine (HC.out _ _ _ HS1.out).mono ?_
  rintro e w2 ⟨A2, c2, A3, c3, rfl, hs2, hc2, hs3, hc3, hb2⟩
  have HS2 := Lib.hid hs2
  have hbb := HB1.out.trans (Below.mono hb2 HB1.out.size)
  have HBB := Lib.hid hbb
  have hw2 := hbb.size
  clear hs2 hb2 hs3 hbb
  go_wp2_with fail
  go_loopw [28, 11] (fun i u wr => ∃ (k : Nat) (D : List Int), k ≤ F.length ∧ i = .int .i64 (k : Int) ∧ wr.ownsRow w2.heap.size 3 1 u D.length (D.map (Value.int .i64)) ∧ D ++ exs (F.drop k) = T ∧ Below w2.heap.size w2 wr) (fun i _ _ => F.length - (intOf i).toNat)
  case atStart => exact ⟨0, [], by omega, rfl, World.ownsRow_nil _ _ _ _, HT.out.symm, Below.refl _ _⟩
  case round =>
    obtain ⟨k, D, hk2, rfl, hown, hD, hbel⟩ := hrel
    have HO := Lib.hid hown
    have HD := Lib.hid hD
    have HB := Lib.hid hbel
    have hB := hbel.size
    clear hown hD hbel
    by_cases hlt : k < F.length
    · have hltI : (k : Int) < (F.length : Int) := by omega
      have hk0 : (0 : Int) ≤ (k : Int) := by omega
      obtain ⟨p, hp⟩ : ∃ p, F[k]? = some p := ⟨_, List.getElem?_eq_getElem hlt⟩
      obtain ⟨b, off, rfl, hbb, hcell⟩ := (HS2.out.on (Nat.le_refl _) HB.out).at (by omega) (by decide)
      have hck := hcell k (cv p) (by rw [List.getElem?_map, hp]; rfl)
      have hstp := HST.out p (List.mem_of_getElem? hp)
      have HE := Lib.hid (fun w => ends_yes hstp w)
      have hdr := HD.out
      rw [exs_drop hp] at hdr
      obtain ⟨pa, pn⟩ := p
      unfold cv at hck
      simp only at hck HE hstp hdr
      obtain ⟨d1, d2, d3⟩ := hstp
      have HDR := Lib.hid hdr
      clear hp hbb hcell hdr
      generalize fz pa = fa at *
      generalize fz pn = fn at *
      have hpa : pa ≤ 33554432 := by omega
      have hpn : pa + pn ≤ 33554432 := by omega
      have hpn0 : 0 ≤ pa + pn := by omega
      go_wp2_with fail
      refine (HE.out _).mono ?_
      rintro e w' ⟨rfl, rfl⟩
      obtain ⟨pb, hpb⟩ : ∃ pb, pb = pa + pn := ⟨_, rfl⟩
      rw [← hpb] at d3 hpn hpn0 ⊢
      have HPB := Lib.hid hpb
      have hab : pa ≤ pb := by omega
      clear hpb
      go_wp2_with fail
      go_loopw [16, 11] (fun at_ u wq => ∃ (t : Int) (E : List Int), pa ≤ t ∧ t ≤ pb ∧ at_ = .int .i64 t ∧ wq.ownsRow w2.heap.size 3 1 u E.length (E.map (Value.int .i64)) ∧ E ++ (ex (t, pb - t) ++ exs (F.drop (k + 1))) = T ∧ Below w2.heap.size w2 wq) (fun a _ _ => (pb - intOf a).toNat)
      case atStart => exact ⟨pa, D, by omega, by omega, rfl, HO.out, by rw [show pb - pa = pn by have := HPB.out; omega]; exact HDR.out, HB.out⟩
      case round =>
        obtain ⟨t, E, ht1, ht2, rfl, hown2, hE, hbel2⟩ := hrel
        have HO2 := Lib.hid hown2
        have HE2 := Lib.hid hE
        have HB2 := Lib.hid hbel2
        have hB2 := hbel2.size
        clear hown2 hE hbel2
        by_cases hlt2 : t < pb
        · have ht0 : 0 ≤ t := by omega
          have hE3 := HE2.out
          rw [ex_cons t _ (by omega)] at hE3
          have hlen : E.length + 1 ≤ T.length := by rw [← hE3]; simp
          have HE3 := Lib.hid hE3
          clear hE3
          go_wp2_with (at_builtin; refine wpList_append_mine rfl (.tmp 43) (.tmp 45) _ _ rfl w2.heap.size 3 i0 (.int .i64 0) 1 8 hz1 hz2 rfl (by decide) _ _ _ rfl (Mine.alloc (.inr HO2.out) _) _ 1 [.int .i64 t] rfl (Gives.elem Try.underlying22 hi0 hz0 hz1 _ rfl) (by simp only [maxLen]; omega) (by omega) (by simp; omega) ?_; intro A5 c5 w5 hm5 hg5 hb5 hat5 hown5)
          have ho5 := hown5 (.inl (by decide))
          have HO5 := Lib.hid ho5
          have HB5 := Lib.hid hb5
          clear ho5 hown5 hat5 hg5 hm5 hb5
          go_wp2_with fail
          go_roundw
          case rel => exact ⟨t + 1, E ++ [t], by omega, by omega, by go_num, by simpa using HO5.out, by rw [← HE3.out, show pb - (t + 1) = pb - t - 1 by omega]; simp, (HB2.out.alloc hB2 _).trans HB5.out⟩
          case measure => simp [intOf]; omega
        · obtain rfl : t = pb := by omega
          have hge : ¬ (t < t) := by omega
          have hE3 := HE2.out
          rw [ex_end t _ (by omega), List.nil_append] at hE3
          have HE3 := Lib.hid hE3
          clear hE3
          go_wp2_with fail
          go_roundw
          case rel => exact ⟨k + 1, E, by omega, by go_num, HO2.out, HE3.out, HB2.out⟩
          case measure => simp [intOf]; omega
    · have hge : (F.length : Int) ≤ (k : Int) := by omega
      have hfin := HD.out
      rw [List.drop_of_length_le (by omega)] at hfin
      simp only [exs, List.flatMap_nil, List.append_nil] at hfin
      subst hfin
      go_wp2_with fail
      go_ret2
      obtain ⟨A7, c7, rfl, q1, q2, q3⟩ := Mine.form (.inr HO.out)
      exact ⟨A7, c7, rfl, q3, q1, HO.out.mono hw2, HBB.out.trans (Below.mono HB.out hw2)⟩
def takeB (L : List UInt8) (blocks n : Int) : Bool := decide (0 ≤ n ∧ n ≤ ((frees L blocks (top blocks)).length : Int))
def takeL (L : List UInt8) (blocks n : Int) : List Int := if takeB L blocks n then (frees L blocks (top blocks)).take n.toNat else []
theorem frees_len (L : List UInt8) (blocks : Int) (k : Nat) : (frees L blocks k).length ≤ k := by
  unfold frees
  rw [List.length_map]
  exact Nat.le_trans (List.length_filter_le _ _) (by simp)
theorem okB_take (L : List UInt8) (blocks n : Int) : okB n (spans L blocks) = takeB L blocks n := by
  unfold okB takeB
  rw [spans_ord, spans_sum]
  simp
theorem take_any (A : Option Addr) (L : List UInt8) (c : Nat) (blocks n : Int) (w : World) (hs : Sl w w.heap.size 1 A L.length (L.map bv)) (hlc : L.length ≤ c) :
    Calls Try.prog 20 #[.slice A L.length c, .int .i64 blocks, .int .i64 n] w (TakeR w (takeL L blocks n) (takeB L blocks n)) := by
  have hb := okB_take L blocks n
  have hl := spans_len L blocks
  refine take_walk A L c blocks n w hs hlc _ _ _ rfl hb.symm ?_ ?_ ?_ ?_
  · rw [hb]
    unfold takeL
    cases h : takeB L blocks n
    · rfl
    · rw [if_pos rfl, if_pos rfl, exs_cut _ _ (of_decide_eq_true h).1 (fun p hp => by have := spans_st L blocks p hp; unfold St at this; omega), spans_frees]
  · split
    · exact cut_st _ _ (spans_st L blocks)
    · simp
  · split
    · exact Nat.le_trans (cut_len _ _).1 (by omega)
    · simp
  · have h1 := frees_len L blocks (top blocks)
    have h2 := top_le blocks
    unfold takeL
    split
    · rw [List.length_take]; omega
    · simp
end Go.Proofs.Ytipdaecihfkonaa.Bt
