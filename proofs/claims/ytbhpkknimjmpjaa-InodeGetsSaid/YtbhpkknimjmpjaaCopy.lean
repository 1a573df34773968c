/-
  copy(dst, src) of bytes, into a row of the call's own.
-/
import Derived.Test.YtbhpkknimjmpjaaMake
import Derived.Test.YtbhpkknimjmpjaaRow
namespace Go.Proofs.Ytbhpkknimjmpjaa.In
open Go.RowKit Wd Wi
set_option linter.unusedVariables false

theorem own_sets {base g n c : Nat} {e : TypeId} : ∀ (ys : List UInt8) (o : Nat) (M : List UInt8) (w : World), w.ownsRow base e 1 (.slice (some ⟨g, 0, none⟩) n c) n (M.map bv) → o + ys.length ≤ M.length →
    (w.setCells g o (ys.map bv)).ownsRow base e 1 (.slice (some ⟨g, 0, none⟩) n c) n ((M.take o ++ ys ++ M.drop (o + ys.length)).map bv)
  | [], o, M, w, h, hl => by
    have e : M.take o ++ [] ++ M.drop (o + ([] : List UInt8).length) = M := by rw [List.append_nil]; exact List.take_append_drop o M
    rw [e]
    exact h
  | y :: r, o, M, w, h, hl => by
    simp only [List.length_cons] at hl
    have h1 := own_sets r (o + 1) (M.set o y) (w.setCell ⟨g, o, none⟩ (bv y)) (own_set h o y) (by rw [List.length_set]; omega)
    have e1 : (M.set o y).take (o + 1) = M.take o ++ [y] := by
      rw [List.take_add_one, List.getElem?_set_self (by omega), List.take_set_of_le (Nat.le_refl o)]
      rfl
    have e2 : (M.set o y).drop (o + 1 + r.length) = M.drop (o + 1 + r.length) := List.drop_set_of_lt (by omega)
    rw [e1, e2] at h1
    have e3 : M.take o ++ (y :: r) ++ M.drop (o + (y :: r).length) = M.take o ++ [y] ++ r ++ M.drop (o + 1 + r.length) := by
      rw [List.length_cons, show o + (r.length + 1) = o + 1 + r.length by omega]
      simp
    rw [e3]
    exact h1
/-- what copy leaves -/
def over (l M : List UInt8) : List UInt8 := l.take M.length ++ M.drop l.length
theorem over_len (l M : List UInt8) : (over l M).length = M.length := by simp [over]; omega
theorem wpList_copy_bytes {ops : Array Oper} {Q : Exit → Act → World → Prop} {a : Act} {w : World} {rest : List Oper} {o : Oper} (hw : Region.wanted o (yielded ops a.tmps) = true) (s x : Operand)
    (ho : o.op = .call { callee := .builtin .copy, args := #[s, x], argTypes := #[22, 22] }) {base g n c c2 : Nat} {A : Option Addr} {M l : List UInt8} (hn : n = M.length)
    (hs : a.eval s = .slice (some ⟨g, 0, none⟩) n c) (hx : a.eval x = .slice A l.length c2) (hM : w.ownsRow base 5 1 (.slice (some ⟨g, 0, none⟩) n c) n (M.map bv)) {B2 : Nat} (hl : Sl w B2 1 A l.length (l.map bv))
    (hK : ∀ w' v, w'.ownsRow base 5 1 (.slice (some ⟨g, 0, none⟩) n c) n ((over l M).map bv) → Only g w w' → wpList Try.prog ops Q rest (a.put o.dst v) w') : wpList Try.prog ops Q (o :: rest) a w := by
  subst hn
  have hi1 : (Try.prog.info? 5).map (·.size) = some 1 := by kernel_rfl
  by_cases h0 : Nat.min l.length M.length = 0
  · have e : over l M = M := by
      unfold over
      rcases Nat.eq_zero_or_pos l.length with h | h
      · have : l = [] := List.eq_nil_of_length_eq_zero h
        subst this
        simp
      · have : M = [] := List.eq_nil_of_length_eq_zero (by simp [Nat.min_def] at h0; split at h0 <;> omega)
        subst this
        simp
    refine wpList_val hw (goInt 0) w ?_ (hK w _ (by rw [e]; exact hM) (Only.refl g w))
    have hr := run_copy_none (P := Try.prog) w 22 22 o.type 5 (some ⟨g, 0, none⟩) A M.length c l.length c2 Try.underlying22 hi1 h0
    clear hK
    unfold execOp
    generalize a.eval = ρ at *
    simp only [ho, resolve, invoke, builtin, Sem.run_bind, Sem.run_pure, Result.andThen_ok, List.map_toArray, List.map_cons, List.map_nil, hs, hx, hr]
  · have hlp : 0 < l.length := by
      rcases Nat.eq_zero_or_pos l.length with h | h
      · exact absurd (by rw [h]; exact Nat.zero_min _) h0
      · exact h
    obtain ⟨ad, rfl, _, hcell⟩ := hl.2 hlp
    have hyl : (l.take M.length).length = Nat.min l.length M.length := by rw [List.length_take]; exact Nat.min_comm _ _
    have hsrc : ∀ (j : Nat) (v : Value), ((l.take M.length).map bv)[j]? = some v → w.cell? (ad.add j) = some v := by
      intro j v hj
      refine hcell j v ?_
      rw [List.map_take, List.getElem?_take] at hj
      split at hj
      · exact hj
      · cases hj
    have hMs := Sl.own hM
    have hMc : ∀ j, j < M.length → w.cell? ⟨g, j, none⟩ = some (bv (M.getD j 0)) := by
      intro j hj
      obtain ⟨ad2, hA, _, hc2⟩ := hMs.2 (by omega)
      injection hA with hA
      subst hA
      have := hc2 j _ (bv_at M j hj)
      rw [Addr.add_lit, Nat.zero_add] at this
      rw [this, List.getD_eq_getElem?_getD, List.getElem?_eq_getElem hj]
      rfl
    have hfz : ∀ j : Nat, w.frozen? ⟨g, j, none⟩ = false := by
      intro j
      rcases hM.2 with ⟨h, _⟩ | ⟨g', cap, cur, hv, _, hg, _⟩
      · cases h
      · injection hv with hA
        injection hA with hA
        injection hA with hA
        subst hA
        simp [World.frozen?, hg]
    have hle : (l.take M.length).length ≤ M.length := by rw [List.length_take]; omega
    have hr := run_copy_cells (P := Try.prog) w 22 22 o.type 5 g 0 M.length c ad l.length c2 ((l.take M.length).map bv) Try.underlying22 hi1 (by rw [List.length_map]; exact hyl) hsrc
      (fun j hj => by rw [List.length_map] at hj; rw [Nat.zero_add, hMc j (by omega)]; rfl) (fun j _ => by rw [Nat.zero_add]; exact hfz j) (bv_one _)
    have hown := own_sets (l.take M.length) 0 M w hM (by omega)
    have e : M.take 0 ++ l.take M.length ++ M.drop (0 + (l.take M.length).length) = over l M := by
      unfold over
      rw [List.take_zero, List.nil_append, Nat.zero_add, List.length_take]
      congr 1
      by_cases hlm : l.length ≤ M.length
      · rw [Nat.min_eq_right hlm]
      · rw [Nat.min_eq_left (by omega), List.drop_of_length_le (Nat.le_refl _), List.drop_of_length_le (by omega)]
    rw [e] at hown
    refine wpList_val hw (goInt ((l.take M.length).map bv).length) _ ?_ (hK _ _ hown (Only.setCells g _ 0 w))
    clear hK
    unfold execOp
    generalize a.eval = ρ at *
    simp only [ho, resolve, invoke, builtin, Sem.run_bind, Sem.run_pure, Result.andThen_ok, List.map_toArray, List.map_cons, List.map_nil, hs, hx, hr]
end Go.Proofs.Ytbhpkknimjmpjaa.In
