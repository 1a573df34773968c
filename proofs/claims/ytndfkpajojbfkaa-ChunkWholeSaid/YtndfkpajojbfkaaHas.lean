/-
  span: Has, of any list of stretches.
-/
import Derived.Test.YtndfkpajojbfkaaSpan0
import Derived.Test.YtndfkpajojbfkaaWords
import Derived.LoopTactic
namespace Go.Proofs.Ytndfkpajojbfkaa.Sp
open Fl Go.RowKit Ga Wd
set_option linter.unusedVariables false

/-- a stretch, or 0 -/
def SZ (p : Int × Int) : Prop := St p.1 p.2 ∨ (p.1 = 0 ∧ p.2 = 0)
def cv (p : Int × Int) : Value := .complex .f64 (fz p.1) (fz p.2)
def inP (x : Int) (p : Int × Int) : Bool := decide (p.1 ≤ x ∧ x < p.1 + p.2)
theorem ends_any {p : Int × Int} (h : SZ p) (w : World) : Calls Try.prog 22 #[cv p] w fun e w' => e = .returned (.tuple #[.int .i64 p.1, .int .i64 (p.1 + p.2)]) ∧ w = w' := by
  rcases h with h | ⟨h1, h2⟩
  · exact ends_yes h w
  · obtain ⟨a, n⟩ := p
    simp only at h1 h2
    subst h1; subst h2
    unfold cv
    simp only
    rw [fz0]
    exact ends_zero w
theorem has1_any {p : Int × Int} (h : SZ p) (x : Int) (pb : Nat) (b : Bool) (hb : inP x p = b) (w : World) (hc : w.cell? ⟨pb, 0, none⟩ = some (.int .i64 x)) :
    Calls Try.prog 28 #[cv p, .pointer (some ⟨pb, 0, none⟩)] w fun e w' => e = .returned (.bool b) ∧ w = w' := by
  have HE := Lib.hid (fun w => ends_any h w)
  unfold cv at HE ⊢
  obtain ⟨a, n⟩ := p
  simp only at HE ⊢
  have hx : b = (decide (a ≤ x) && decide (x < a + n)) := by rw [← hb]; unfold inP; simp
  have HB := Lib.hid hx
  clear h hb hx
  generalize fz a = p at *
  generalize fz n = q at *
  by_cases h1 : a ≤ x
  · by_cases h2 : x < a + n
    · have HR : Hid (b = true) := by show b = true; rw [HB.out]; simp [h1, h2]
      rw [HR.out]
      go_enter Try.func28, Try.ntmps28
      go_wp2_with fail
      refine (HE.out _).mono ?_
      rintro e w' ⟨rfl, rfl⟩
      go_wp2_with fail
      go_ret
      exact ⟨rfl, rfl⟩
    · have HR : Hid (b = false) := by show b = false; rw [HB.out]; simp [h1, h2]
      rw [HR.out]
      have hd : decide (x < a + n) = false := by simpa using h2
      go_enter Try.func28, Try.ntmps28
      go_wp2_with fail
      refine (HE.out _).mono ?_
      rintro e w' ⟨rfl, rfl⟩
      go_wp2_with fail
      go_ret
      exact ⟨rfl, rfl⟩
  · have HR : Hid (b = false) := by show b = false; rw [HB.out]; simp [h1]
    rw [HR.out]
    have hd : decide (a ≤ x) = false := by simpa using h1
    go_enter Try.func28, Try.ntmps28
    go_wp2_with fail
    refine (HE.out _).mono ?_
    rintro e w' ⟨rfl, rfl⟩
    go_wp2_with fail
    go_ret
    exact ⟨rfl, rfl⟩
def hasB (l : List (Int × Int)) (x : Int) : Bool := l.any (inP x)
/-- what IndexFunc hands back: a place, or -1 -/
def IdxR (w : World) (b : Bool) (e : Ending) (w' : World) : Prop := ∃ r : Int, e = .returned (.int .i64 r) ∧ decide (0 ≤ r) = b ∧ w = w'
set_option maxHeartbeats 400000 in
theorem idx_any (A : Option Addr) (l : List (Int × Int)) (c : Nat) (hl : ∀ p ∈ l, SZ p) (x : Int) (pb : Nat) (w : World) (hs : Sl w w.heap.size 1 A l.length (l.map cv)) (hk : l.length ≤ 140737488355328) (hc : w.cell? ⟨pb, 0, none⟩ = some (.int .i64 x)) :
    Calls Try.prog 30 #[.slice A l.length c, .func (Fn.func 28) #[] #[.pointer (some ⟨pb, 0, none⟩)]] w (IdxR w (hasB l x)) := by
  have HS := Lib.hid hs
  have HL := Lib.hid hl
  have HC := Lib.hid hc
  clear hs hl hc
  go_enter Try.func30, Try.ntmps30
  go_wp2_with fail
  go_loop [8] (fun i => ∃ k : Nat, k ≤ l.length ∧ i = .int .i64 (k : Int) ∧ (l.take k).any (inP x) = false) (fun i => l.length - (intOf i).toNat)
  case atStart => exact ⟨0, by omega, rfl, rfl⟩
  case round =>
    obtain ⟨k, hk2, rfl, hnot⟩ := hrel
    have HN := Lib.hid hnot
    clear hnot
    by_cases hlt : k < l.length
    · have hltI : (k : Int) < (l.length : Int) := by omega
      obtain ⟨p, hp⟩ : ∃ p, l[k]? = some p := ⟨_, List.getElem?_eq_getElem hlt⟩
      obtain ⟨b, off, rfl, hbb, hcell⟩ := HS.out.at (by omega) (by decide)
      have hck := hcell k (cv p) (by rw [List.getElem?_map, hp]; rfl)
      have HP := Lib.hid (fun b hb w hc => has1_any (HL.out p (List.mem_of_getElem? hp)) x pb b hb w hc)
      have hnext : (l.take (k + 1)).any (inP x) = ((l.take k).any (inP x) || inP x p) := by rw [List.take_add_one, hp]; simp
      rw [HN.out, Bool.false_or] at hnext
      have HX := Lib.hid hnext
      have HMEM := Lib.hid (List.mem_of_getElem? hp)
      unfold cv at hck HP
      clear hp hbb hcell hnext
      cases hin : inP x p
      · have HI := Lib.hid hin
        clear hin
        go_wp2_with fail
        refine (HP.out _ HI.out _ HC.out).mono ?_
        rintro e w' ⟨rfl, rfl⟩
        go_wp2_with fail
        go_round
        case rel => exact ⟨k + 1, by omega, by go_num, HX.out.trans HI.out⟩
        case measure => simp [intOf]; omega
      · have HI := Lib.hid hin
        clear hin
        have hk0 : (0 : Int) ≤ (k : Int) := by omega
        have HB : Hid (hasB l x = true) := Lib.hid (List.any_eq_true.2 ⟨p, HMEM.out, HI.out⟩)
        go_wp2_with fail
        refine (HP.out _ HI.out _ HC.out).mono ?_
        rintro e w' ⟨rfl, rfl⟩
        go_wp2_with fail
        go_ret
        exact ⟨_, rfl, by rw [HB.out]; simp, rfl⟩
    · have HB : Hid (hasB l x = false) := by
        show hasB l x = false
        have := HN.out
        rw [List.take_of_length_le (by omega)] at this
        exact this
      have hge : (l.length : Int) ≤ (k : Int) := by omega
      go_wp2_with fail
      go_ret
      exact ⟨_, rfl, by rw [HB.out]; rfl, rfl⟩
theorem has_any (A : Option Addr) (l : List (Int × Int)) (c : Nat) (hl : ∀ p ∈ l, SZ p) (x : Int) (w : World) (hs : Sl w w.heap.size 1 A l.length (l.map cv)) (hk : l.length ≤ 140737488355328) :
    Calls Try.prog 24 #[.slice A l.length c, .int .i64 x] w fun e w' => e = .returned (.bool (hasB l x)) ∧ Below w.heap.size w w' := by
  have HI := Lib.hid (fun pb w hs hc => idx_any A l c hl x pb w hs hk hc)
  have HCF : Hid (∀ pb w, Sl w w.heap.size 1 A l.length (l.map cv) → w.cell? ⟨pb, 0, none⟩ = some (.int .i64 x) →
      Calls Try.prog 27 #[.slice A l.length c, .func (Fn.func 28) #[] #[.pointer (some ⟨pb, 0, none⟩)]] w fun e w' => e = .returned (.bool (hasB l x)) ∧ w = w') := by
    refine Lib.hid fun pb w hs hc => ?_
    have H := Lib.hid (HI.out pb w hs hc)
    clear hs hc HI hl
    generalize hasB l x = B at *
    go_enter Try.func27, Try.ntmps27
    go_wp2_with fail
    refine H.out.mono ?_
    rintro e w' ⟨r, rfl, hr, rfl⟩
    have HR := Lib.hid hr
    clear hr
    go_wp2_with fail
    go_ret
    exact ⟨by rw [← HR.out]; rfl, rfl⟩
  clear HI hl
  generalize hasB l x = B at *
  have HS := Lib.hid hs
  clear hs
  go_enter Try.func24, Try.ntmps24
  go_wp2_with fail
  refine (HCF.out _ _ ((HS.out.alloc (Nat.le_refl _) _).more (by simp)) ?_).mono ?_
  · simp
  rintro e w' ⟨rfl, rfl⟩
  go_wp2_with fail
  go_ret
  exact ⟨rfl, (Below.refl _ _).alloc (Nat.le_refl _) _⟩
end Go.Proofs.Ytndfkpajojbfkaa.Sp
