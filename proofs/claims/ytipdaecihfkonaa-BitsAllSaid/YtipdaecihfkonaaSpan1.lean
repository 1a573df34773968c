/-
  span: lists of stretches: in order, their sum.
-/
import Derived.Test.YtipdaecihfkonaaSpan0
import Derived.Test.YtipdaecihfkonaaWords
import Derived.LoopTactic
namespace Go.Proofs.Ytipdaecihfkonaa.Sp
open Fl Go.RowKit Ga Wd
set_option linter.unusedVariables false

/-- a stretch, or 0 -/
def SZ (p : Int × Int) : Prop := St p.1 p.2 ∨ (p.1 = 0 ∧ p.2 = 0)
def cv (p : Int × Int) : Value := .complex .f64 (fz p.1) (fz p.2)
theorem ends_any {p : Int × Int} (h : SZ p) (w : World) : Calls Try.prog 29 #[cv p] w fun e w' => e = .returned (.tuple #[.int .i64 p.1, .int .i64 (p.1 + p.2)]) ∧ w = w' := by
  rcases h with h | ⟨h1, h2⟩
  · exact ends_yes h w
  · obtain ⟨a, n⟩ := p
    simp only at h1 h2
    subst h1; subst h2
    unfold cv
    simp only
    rw [fz0]
    exact ends_zero w
def ordM : Int → List (Int × Int) → Bool
  | _, [] => true
  | last, p :: r => if p.1 + p.2 = 0 ∨ p.1 ≤ last then false else ordM (p.1 + p.2) r
def orderedB (l : List (Int × Int)) : Bool := ordM (-1) l
def sumP : List (Int × Int) → Int
  | [] => 0
  | p :: r => p.2 + sumP r
def sumM (l : List (Int × Int)) : Int := if orderedB l then sumP l else 0
theorem sumP_append (a b : List (Int × Int)) : sumP (a ++ b) = sumP a + sumP b := by
  induction a with
  | nil => simp [sumP]
  | cons p r ih => simp only [List.cons_append, sumP, ih]; omega
theorem SZ.bd {p : Int × Int} (h : SZ p) : 0 ≤ p.1 ∧ 0 ≤ p.2 ∧ p.1 + p.2 ≤ 33554432 := by
  unfold SZ St at h
  omega
theorem ord_bd : ∀ (l : List (Int × Int)) (last : Int), (∀ p ∈ l, SZ p) → ordM last l = true → last ≤ 33554432 → 0 ≤ sumP l ∧ last + sumP l ≤ 33554432 ∧ sumP l ≤ 33554432
  | [], last, _, _, h => by simp [sumP]; omega
  | p :: r, last, hs, ho, hl => by
    unfold ordM at ho
    split at ho
    · cases ho
    · rename_i hn
      have hp := (hs p (by simp)).bd
      have ih := ord_bd r (p.1 + p.2) (fun q hq => hs q (by simp [hq])) ho hp.2.2
      simp only [sumP]
      omega
theorem ord_take : ∀ (l : List (Int × Int)) (last : Int) (k : Nat), ordM last l = true → ordM last (l.take k) = true
  | _, _, 0, _ => by simp [ordM]
  | [], _, k + 1, _ => by simp [ordM]
  | p :: r, last, k + 1, h => by
    simp only [List.take_succ_cons]
    unfold ordM at h ⊢
    split at h
    · cases h
    · rename_i hn
      rw [if_neg hn]
      exact ord_take r _ k h
theorem ord_drop {l : List (Int × Int)} {k : Nat} {p : Int × Int} (h : l[k]? = some p) (last : Int) : ordM last (l.drop k) = if p.1 + p.2 = 0 ∨ p.1 ≤ last then false else ordM (p.1 + p.2) (l.drop (k + 1)) := by
  have hlt : k < l.length := (List.getElem?_eq_some_iff.1 h).1
  have he : l[k] = p := (List.getElem?_eq_some_iff.1 h).2
  rw [List.drop_eq_getElem_cons hlt, he]
  rfl
theorem take_sum {l : List (Int × Int)} {k : Nat} {p : Int × Int} (h : l[k]? = some p) : sumP (l.take (k + 1)) = sumP (l.take k) + p.2 := by
  rw [List.take_add_one, h, sumP_append]
  simp [sumP]
section
variable (A : Option Addr) (l : List (Int × Int)) (c : Nat) (w : World)
theorem ordered_any (hl : ∀ p ∈ l, SZ p) (hs : Sl w w.heap.size 1 A l.length (l.map cv)) (hk : l.length ≤ 140737488355328) :
    Calls Try.prog 33 #[.slice A l.length c] w fun e w' => e = .returned (.bool (orderedB l)) ∧ w = w' := by
  have HS := Lib.hid hs
  have HL := Lib.hid hl
  clear hs hl
  go_enter Try.func33, Try.ntmps33
  go_wp2_with fail
  go_loop [3, 10] (fun la i => ∃ (k : Nat) (last : Int), k ≤ l.length ∧ i = .int .i64 (k : Int) ∧ la = .int .i64 last ∧ orderedB l = ordM last (l.drop k)) (fun _ i => l.length - (intOf i).toNat)
  case atStart => exact ⟨0, -1, by omega, rfl, rfl, rfl⟩
  case round =>
    obtain ⟨k, last, hk2, rfl, rfl, hord⟩ := hrel
    have HO := Lib.hid hord
    clear hord
    by_cases hlt : k < l.length
    · have hltI : (k : Int) < (l.length : Int) := by omega
      have hk0 : (0 : Int) ≤ (k : Int) := by omega
      obtain ⟨p, hp⟩ : ∃ p, l[k]? = some p := ⟨_, List.getElem?_eq_getElem hlt⟩
      obtain ⟨b, off, rfl, hbb, hcell⟩ := HS.out.at (by omega) (by decide)
      have hck := hcell k (cv p) (by rw [List.getElem?_map, hp]; rfl)
      have hsz := HL.out p (List.mem_of_getElem? hp)
      have HE := Lib.hid (fun w => ends_any hsz w)
      have HD := Lib.hid (ord_drop hp last)
      have hbd := hsz.bd
      unfold cv at hck HE
      obtain ⟨pa, pn⟩ := p
      simp only at hck HE HD hbd
      obtain ⟨d1, d2, d3⟩ := hbd
      clear hp hbb hcell hsz
      generalize fz pa = fa at *
      generalize fz pn = fn at *
      by_cases h0 : pa + pn = 0
      · have HF : Hid (orderedB l = false) := by
          show _ = _
          rw [HO.out, HD.out, if_pos (.inl h0)]
        go_wp2_with fail
        refine (HE.out _).mono ?_
        rintro e w' ⟨rfl, rfl⟩
        go_wp2_with fail
        go_ret
        exact ⟨by rw [HF.out]; rfl, rfl⟩
      · have h0b : (pa + pn == 0) = false := by simpa using h0
        by_cases h1 : pa ≤ last
        · have HF : Hid (orderedB l = false) := by
            show _ = _
            rw [HO.out, HD.out, if_pos (.inr h1)]
          go_wp2_with fail
          refine (HE.out _).mono ?_
          rintro e w' ⟨rfl, rfl⟩
          go_wp2_with fail
          go_ret
          exact ⟨by rw [HF.out]; rfl, rfl⟩
        · have HN : Hid (orderedB l = ordM (pa + pn) (l.drop (k + 1))) := by
            show _ = _
            rw [HO.out, HD.out, if_neg (by omega)]
          have hd : decide (pa ≤ last) = false := by simpa using h1
          clear h1 h0
          go_wp2_with fail
          refine (HE.out _).mono ?_
          rintro e w' ⟨rfl, rfl⟩
          go_wp2_with fail
          go_round
          case rel => exact ⟨k + 1, _, by omega, by go_num, rfl, HN.out⟩
          case measure => simp [intOf]; omega
    · have HF : Hid (orderedB l = true) := by
        show _ = _
        rw [HO.out, List.drop_of_length_le (by omega)]
        rfl
      have hge : (l.length : Int) ≤ (k : Int) := by omega
      go_wp2_with fail
      go_ret
      exact ⟨by rw [HF.out]; rfl, rfl⟩
theorem sum_any (hl : ∀ p ∈ l, SZ p) (hs : Sl w w.heap.size 1 A l.length (l.map cv)) (hk : l.length ≤ 140737488355328) :
    Calls Try.prog 27 #[.slice A l.length c] w fun e w' => e = .returned (.int .i64 (sumM l)) ∧ w = w' := by
  have HO := Lib.hid (fun w hs => ordered_any A l c w hl hs hk)
  have HS := Lib.hid hs
  have HL := Lib.hid hl
  clear hs hl
  cases hob : orderedB l
  · have HM : Hid (sumM l = 0) := by show _ = _; unfold sumM; rw [hob]; rfl
    rw [hob] at HO
    rw [HM.out]
    clear hob
    go_enter Try.func27, Try.ntmps27
    go_wp2_with fail
    refine (HO.out _ HS.out).mono ?_
    rintro e w' ⟨rfl, rfl⟩
    go_wp2_with fail
    go_ret
    exact ⟨rfl, rfl⟩
  · have HM : Hid (sumM l = sumP l) := by show _ = _; unfold sumM; rw [hob]; rfl
    rw [hob] at HO
    rw [HM.out]
    have HB : Hid (∀ k, 0 ≤ sumP (l.take k) ∧ sumP (l.take k) ≤ 33554432) := Lib.hid fun k => by
      have h := ord_bd (l.take k) (-1) (fun p hp => HL.out p (List.mem_of_mem_take hp)) (ord_take l (-1) k hob) (by omega)
      exact ⟨h.1, h.2.2⟩
    clear hob
    go_enter Try.func27, Try.ntmps27
    go_wp2_with fail
    refine (HO.out _ HS.out).mono ?_
    rintro e w' ⟨rfl, rfl⟩
    go_wp2_with fail
    go_loop [3, 11] (fun n i => ∃ k : Nat, k ≤ l.length ∧ i = .int .i64 (k : Int) ∧ n = .int .i64 (sumP (l.take k))) (fun _ i => l.length - (intOf i).toNat)
    case atStart => exact ⟨0, by omega, rfl, rfl⟩
    case round =>
      obtain ⟨k, hk2, rfl, rfl⟩ := hrel
      by_cases hlt : k < l.length
      · have hltI : (k : Int) < (l.length : Int) := by omega
        have hk0 : (0 : Int) ≤ (k : Int) := by omega
        obtain ⟨p, hp⟩ : ∃ p, l[k]? = some p := ⟨_, List.getElem?_eq_getElem hlt⟩
        obtain ⟨b, off, rfl, hbb, hcell⟩ := HS.out.at (by omega) (by decide)
        have hck := hcell k (cv p) (by rw [List.getElem?_map, hp]; rfl)
        have hsz := HL.out p (List.mem_of_getElem? hp)
        have hbd := hsz.bd
        have HT := Lib.hid (take_sum hp)
        obtain ⟨d4, d5⟩ := HB.out k
        unfold cv at hck
        obtain ⟨pa, pn⟩ := p
        simp only at hck HT hbd
        obtain ⟨d1, d2, d3⟩ := hbd
        have x1 : Sm pn := by unfold Sm; omega
        have k1 := fun w => run_convert_float_int (P := Try.prog) w 45 3 .f64 .i64 (fz pn) pn (by rw [Try.underlying45]; rfl) Try.underlying3 (conv_fz x1)
        clear hp hbb hcell hsz x1
        generalize fz pa = fa at *
        generalize fz pn = fn at *
        generalize sumP (l.take k) = S at *
        go_wp2_with fail
        go_round
        case rel => exact ⟨k + 1, by omega, by go_num, by rw [HT.out]⟩
        case measure => simp [intOf]; omega
      · have HE : Hid (l.take k = l) := by show _ = _; exact List.take_of_length_le (by omega)
        have hge : (l.length : Int) ≤ (k : Int) := by omega
        rw [HE.out]
        go_wp2_with fail
        go_ret
        exact ⟨rfl, rfl⟩
end
end Go.Proofs.Ytipdaecihfkonaa.Sp
