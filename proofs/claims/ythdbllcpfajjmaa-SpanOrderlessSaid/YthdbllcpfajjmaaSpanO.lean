/-
  Plain law for 'SpanOrderless': a list turned round, and one with two places exchanged, has the same members. A row of the call's own, by cells.
-/
import Derived.Test.YthdbllcpfajjmaaSpanA
namespace Go.Proofs.Ythdbllcpfajjmaa.Sp
open Fl Go.RowKit Ga Wd
set_option linter.unusedVariables false
def rotM (m : Ls) (a : Nat) : Ls := m.drop a ++ m.take a
theorem rot_perm (m : Ls) (a : Nat) : (rotM m a).Perm m := by
  unfold rotM
  have h := List.perm_append_comm (l₁ := m.drop a) (l₂ := m.take a)
  rwa [List.take_append_drop] at h
theorem rot_at {m : Ls} {a i r : Nat} (ha : a < m.length) (hi : i < m.length) (hr : r = (i + a) % m.length) : (rotM m a)[i]? = m[r]? := by
  unfold rotM
  by_cases h : i + a < m.length
  · rw [Nat.mod_eq_of_lt h] at hr
    rw [List.getElem?_append_left (by rw [List.length_drop]; omega), List.getElem?_drop, hr, Nat.add_comm]
  · have : (i + a) % m.length = i + a - m.length := by
      rw [Nat.mod_eq_sub_mod (by omega), Nat.mod_eq_of_lt (by omega)]
    rw [this] at hr
    rw [List.getElem?_append_right (by rw [List.length_drop]; omega), List.length_drop, List.getElem?_take_of_lt (by omega), hr]
    congr 1
    omega
theorem swp_perm {l : Ls} {i j : Nat} {x y : Int × Int} (hx : l[i]? = some x) (hy : l[j]? = some y) : ((l.set i y).set j x).Perm l := by
  obtain ⟨hi, rfl⟩ := List.getElem?_eq_some_iff.1 hx
  obtain ⟨hj, rfl⟩ := List.getElem?_eq_some_iff.1 hy
  have h := Array.swap_perm (xs := l.toArray) (i := i) (j := j) (by simpa using hi) (by simpa using hj)
  have := Array.perm_iff_toList_perm.1 h
  simpa [Array.swap] using this
theorem AllSt.ofPerm {a b : Ls} (h : a.Perm b) (hb : AllSt b) : AllSt a := fun p hp => hb p (h.mem_iff.1 hp)
theorem nf_perm {a b : Ls} (h : a.Perm b) (hb : AllSt b) : nf a = nf b := nf_same (hb.ofPerm h) hb fun x => inB_perm h x
theorem nf_twice {a b : Ls} (h : a.Perm b) (hb : AllSt b) : nf (a ++ b) = nf b :=
  nf_same ((hb.ofPerm h).append hb) hb fun x => by rw [inB_append, inB_perm h x, Bool.or_self]
theorem ownc_at {w : World} {base g n c j : Nat} {e : TypeId} {L : Ls} {p : Int × Int} (h : w.ownsRow base e 1 (.slice (some ⟨g, 0, none⟩) n c) n (L.map cv)) (hj : L[j]? = some p) :
    w.cell? ⟨g, j, none⟩ = some (cv p) ∧ w.frozen? ⟨g, j, none⟩ = false := by
  have hl : L.length = n := by have := h.1; simpa using this
  have hlt := (List.getElem?_eq_some_iff.1 hj).1
  constructor
  · obtain ⟨ad, hA, _, hc⟩ := (Sl.own h).2 (by omega)
    injection hA with hA
    subst hA
    have := hc j (cv p) (by rw [List.getElem?_map, hj]; rfl)
    rwa [Addr.add_lit, Nat.zero_add] at this
  · rcases h.2 with ⟨h, _⟩ | ⟨g', cap, cur, hv, _, hg, _⟩
    · cases h
    · injection hv with hA
      injection hA with hA
      injection hA with hA
      subst hA
      simp [World.frozen?, hg]
theorem ownc_set {w : World} {base g n c : Nat} {e : TypeId} {L : Ls} (h : w.ownsRow base e 1 (.slice (some ⟨g, 0, none⟩) n c) n (L.map cv)) (j : Nat) (y : Int × Int) :
    (w.setCell ⟨g, j, none⟩ (cv y)).ownsRow base e 1 (.slice (some ⟨g, 0, none⟩) n c) n ((L.set j y).map cv) := by
  have := (h.stored j (cv y)).1
  rwa [← List.map_set] at this
theorem ownc_ge {w : World} {base g n c : Nat} {e : TypeId} {s : Nat} {xs : List Value} (h : w.ownsRow base e s (.slice (some ⟨g, 0, none⟩) n c) n xs) : base ≤ g := by
  rcases h.2 with ⟨h, _⟩ | ⟨g', cap, cur, hv, hb, _⟩
  · cases h
  · injection hv with hA
    injection hA with hA
    injection hA with hA
    subst hA
    exact hb
theorem below_set {B : Nat} {w w' : World} (h : Below B w w') {p : Addr} (hp : B ≤ p.block) (u : Value) : Below B w (w'.setCell p u) := h.setCell hp u
end Go.Proofs.Ythdbllcpfajjmaa.Sp
