/-
  slices.SortFunc at stretches, over the shelf's contract; at no element it turns nothing.
-/
import Derived.Test.YthdbllcpfajjmaaLay
import Derived.Test.YthdbllcpfajjmaaSpanL
import Derived.Deep.Draws
namespace Go.Proofs.Ythdbllcpfajjmaa.Sp
open Fl Go.RowKit Ga Wd Go.Shelf Go.Lib Go.Sort
set_option linter.unusedVariables false

abbrev StP := {p : Int × Int // St p.1 p.2}
instance : Inhabited StP := ⟨⟨(0, 1), by decide⟩⟩
def encP (x : StP) : Value := cv x.1
def cfP (x y : StP) : Int := x.1.1 - y.1.1
theorem ltP (x y : StP) : ltOf cfP x y = decide (x.1.1 < y.1.1) := by
  unfold ltOf cfP
  congr 1
  apply propext
  omega
theorem swoP : SWO (ltOf cfP) where
  irrefl x := by rw [ltP]; simp
  trans x y z h1 h2 := by rw [ltP] at *; simp at *; omega
  ntrans x y z h1 h2 := by rw [ltP] at *; simp at *; omega
theorem cmp_any {p q : Int × Int} (hp : St p.1 p.2) (hq : St q.1 q.2) (W : World) : Calls Try.prog 27 #[cv p, cv q] W fun e w' => e = .returned (.int .i64 (p.1 - q.1)) ∧ W = w' := by
  have k1 := fun w => run_convert_float_int (P := Try.prog) w 29 3 .f64 .i64 (fz p.1) p.1 (by rw [Try.underlying29]; rfl) Try.underlying3 (conv_fz hp.a.sm)
  have k2 := fun w => run_convert_float_int (P := Try.prog) w 29 3 .f64 .i64 (fz q.1) q.1 (by rw [Try.underlying29]; rfl) Try.underlying3 (conv_fz hq.a.sm)
  have b1 : 0 ≤ p.1 ∧ p.1 ≤ 33554432 := by unfold St at hp; omega
  have b2 : 0 ≤ q.1 ∧ q.1 ≤ 33554432 := by unfold St at hq; omega
  obtain ⟨b11, b12⟩ := b1
  obtain ⟨b21, b22⟩ := b2
  unfold cv
  clear hp hq
  generalize fz p.1 = x1 at *
  generalize fz p.2 = x2 at *
  generalize fz q.1 = y1 at *
  generalize fz q.2 = y2 at *
  go_enter Try.func27, Try.ntmps27
  go_wp2_with fail
  go_ret
  exact ⟨rfl, rfl⟩
theorem cmp_reads (blk off size : Nat) (w : World) : CmpReads Try.prog 27 #[] encP cfP blk off size w := fun m os dk _ x y =>
  (cmp_any x.2 y.2 _).mono fun e w' h => ⟨h.1, 0, h.2.symm⟩
theorem cmp_enters : ∀ args w, (callFunc 27 args).run Try.prog w = .ok (.enter 27 args) w := enters_of Try.func27 (by kernel_rfl) rfl

theorem sorted_below {B : Nat} (w : World) (b n : Nat) (d : Array StP) (os : Array Obj) (hB : B ≤ b) (hb : b < w.heap.size) : Below B w (sortWorld encP w b 0 n d os) := by
  have e : (sortWorld encP w b 0 n d os).heap = w.heap.modify b (onCells (putCells encP 0 d)) ++ os := rfl
  refine ⟨rfl, rfl, rfl, ?_, fun k hk => ?_⟩
  · rw [e, Array.size_append, Array.size_modify]
    exact Nat.le_add_right _ _
  · rw [e, Array.getElem?_append_left (by rw [Array.size_modify]; omega), Array.getElem?_modify, if_neg (by omega)]
def pk : (l : Ls) → AllSt l → List StP
  | [], _ => []
  | p :: r, h => ⟨p, h.head⟩ :: pk r h.tail
theorem pk_val : ∀ (l : Ls) (hs : AllSt l), (pk l hs).map (·.1) = l
  | [], _ => rfl
  | p :: r, h => by
    simp only [pk, List.map_cons]
    rw [pk_val r h.tail]
theorem pk_len (l : Ls) (hs : AllSt l) : (pk l hs).length = l.length := by
  have := congrArg List.length (pk_val l hs)
  simpa using this
def arr (l : Ls) (hs : AllSt l) : Array StP := (pk l hs).toArray
theorem arr_size (l : Ls) (hs : AllSt l) : (arr l hs).size = l.length := by
  unfold arr
  rw [List.size_toArray, pk_len]
theorem arr_val (l : Ls) (hs : AllSt l) : (arr l hs).toList.map (·.1) = l := pk_val l hs
theorem arr_at (l : Ls) (hs : AllSt l) (j : Nat) (h : j < l.length) : ((arr l hs)[j]!).1 = l[j] := by
  have hj : j < (pk l hs).length := by rw [pk_len]; exact h
  rw [getElem!_pos _ j (by rw [arr_size]; exact h)]
  have h1 : ((pk l hs).map (·.1))[j]? = l[j]? := by rw [pk_val]
  rw [List.getElem?_map, List.getElem?_eq_getElem hj, List.getElem?_eq_getElem h] at h1
  simp at h1
  rw [← h1]
  rfl
theorem sort_some (b c : Nat) (l : Ls) (w : World) (base : Nat) (hs : AllSt l) (ho : w.ownsRow base 22 1 (.slice (some ⟨b, 0, none⟩) l.length c) l.length (l.map cv)) (hn : 0 < l.length) (hl : l.length ≤ 1000000) :
    Calls Try.prog 26 #[.slice (some ⟨b, 0, none⟩) l.length c, .func (.func 27) #[] #[]] w fun e w' => e = .returned (.tuple #[]) ∧
      ∃ d : Ls, d.Perm l ∧ Asc d ∧ d.length = l.length ∧ Sl w' w'.heap.size 1 (some ⟨b, 0, none⟩) l.length (d.map cv) ∧ Below base w w' := by
  have hsl := Sl.own ho
  obtain ⟨b1, h1, h2⟩ : ∃ _ : Unit, base ≤ b ∧ b < w.heap.size := by
    have := own_lt ho b rfl
    exact ⟨(), this.1, this.2⟩
  have hfz : ∀ j : Nat, w.frozen? ⟨b, j, none⟩ = false := by
    intro j
    rcases ho.2 with ⟨h, _⟩ | ⟨g', cap, cur, hv, _, hg, _⟩
    · cases h
    · injection hv with hA
      injection hA with hA
      injection hA with hA
      subst hA
      simp [World.frozen?, hg]
  have hH : Holds encP w b 0 (arr l hs) := by
    intro j hj
    rw [arr_size] at hj
    refine ⟨?_, hfz _⟩
    obtain ⟨ad, e, _, hc⟩ := hsl.2 hn
    injection e with e
    subst e
    have := hc j (cv l[j]) (by rw [List.getElem?_map, List.getElem?_eq_getElem hj]; rfl)
    rw [Addr.add_lit] at this
    rw [this]
    unfold encP
    rw [arr_at l hs j hj]
  have h := Any.slices_SortFunc Sh.sortC encP (fun _ => rfl) cfP swoP 27 #[] b 0 c (arr l hs) w cmp_enters (cmp_reads b 0 _ w).lays hH h2 (by rw [arr_size]; omega)
  rw [arr_size] at h
  refine Calls.mono h ?_
  rintro e w' ⟨rfl, d', n, os, hp, hsrt, rfl⟩
  have hd : d'.size = l.length := by rw [hp.1, arr_size]
  have hperm : d'.toList.Perm (arr l hs).toList := by
    have := hp.2.2
    rwa [Array.extract_eq_self_of_le (by omega), Array.extract_eq_self_of_le (by rw [arr_size]; exact Nat.le_refl _)] at this
  refine ⟨rfl, d'.toList.map (·.1), ?_, ?_, by simp [hd], ⟨by simp [hd], fun _ => ⟨_, rfl, ?_, fun j u hu => ?_⟩⟩, sorted_below w b n d' os h1 h2⟩
  · have := hperm.map (·.1)
    rwa [arr_val] at this
  · unfold Asc
    rw [List.pairwise_iff_getElem]
    intro i j hi hj hij
    simp only [List.length_map, Array.length_toList] at hi hj
    have := hsrt i j (Nat.zero_le _) hij (by omega)
    rw [ltP, decide_eq_false_iff_not, getElem!_pos _ j hj, getElem!_pos _ i hi] at this
    simp only [List.getElem_map, Array.getElem_toList]
    omega
  · show b < (w.heap.modify b (onCells (putCells encP 0 d')) ++ os).size
    rw [Array.size_append, Array.size_modify]
    omega
  · have hj : j < d'.size := by
      have := (List.getElem?_eq_some_iff.1 hu).1
      simpa using this
    have hu' : u = encP d'[j]! := by
      rw [List.getElem?_map, List.getElem?_map, Array.getElem?_toList, Array.getElem?_eq_getElem hj] at hu
      simp at hu
      rw [← hu, getElem!_pos _ j hj]
      rfl
    rw [hu', Addr.add_lit]
    unfold sortWorld
    rw [cell?_grow _ _ _ (by show b < (w.heap.modify b (onCells (putCells encP 0 d'))).size; rw [Array.size_modify]; exact h2)]
    exact cell?_putRow encP _ b 0 (arr l hs) d' (holds_ahead _ _ _ _ _ _ hH) hp.1 j hj
end Go.Proofs.Ythdbllcpfajjmaa.Sp
