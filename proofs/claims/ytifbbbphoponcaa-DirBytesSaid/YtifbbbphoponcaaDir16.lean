/-
  dir: what both Gets answer of any bytes.
-/
import Derived.Test.YtifbbbphoponcaaDir15
namespace Go.Proofs.Ytifbbbphoponcaa.Dr
open Go.RowKit Wd Wi
set_option linter.unusedVariables false

theorem put_at {l : List En} (h : checkB l = true) {j : Nat} {x : En} (hx : l[j]? = some x) : runs (putL l) j ∧ getE (putL l) j = x := by
  obtain ⟨hok, hlen⟩ := check_parts h
  have hm := okTo_may hok
  have hlt := (List.getElem?_eq_some_iff.1 hx).1
  have hsz : (entsB (l.take j)).length = 32 * j := by
    rw [entsB_len fun x hx => (may_size (hm x (List.mem_of_mem_take hx))).2.1, List.length_take]
    omega
  have e : putL l = entsB (l.take j) ++ (entB x ++ (entsB (l.drop (j + 1)) ++ List.replicate (128 * ((l.length + 3) / 4) - 32 * l.length) 0)) := by
    unfold putL
    rw [ents_split hx]
    simp
  rw [e]
  exact getE_at _ _ x j hsz (hm x (List.mem_of_getElem? hx))
theorem runs_stop (b : List UInt8) : ∃ k, (∀ j, j < k → runs b j) ∧ ¬ runs b k := by
  have h : ∀ n, (∃ k, (∀ j, j < k → runs b j) ∧ ¬ runs b k) ∨ ∀ j, j < n → runs b j := fun n => by
    induction n with
    | zero => exact .inr fun j hj => absurd hj (Nat.not_lt_zero j)
    | succ n ih =>
      rcases ih with h | h
      · exact .inl h
      · by_cases hn : runs b n
        · refine .inr fun j hj => ?_
          by_cases hj2 : j < n
          · exact h j hj2
          · obtain rfl : j = n := by omega
            exact hn
        · exact .inl ⟨n, h, hn⟩
  rcases h (b.length + 1) with h | h
  · exact h
  · have := (h b.length (Nat.lt_succ_self _)).1
    omega
/-- an answer of Get -/
def ResG (w : World) (g : List En) (ok : Bool) (e : Ending) (w' : World) : Prop :=
  ∃ A c, e = .returned (.tuple #[.slice A g.length c, .bool ok]) ∧ Sl w' w'.heap.size 2 A g.length (ecs g) ∧ Below w.heap.size w w'
theorem ResG.no {w w' : World} (hb : Below w.heap.size w w') : ResG w [] false (.returned (.tuple #[.slice none 0 0, .bool false])) w' := ⟨none, 0, rfl, Sl.nil none, hb⟩
theorem get_canon (b : List UInt8) : ∃ (g : List En) (ok : Bool), g.length ≤ 64 ∧ ∀ w e w', (GetR w b e w' → ResG w g ok e w') ∧ (GetD w b e w' → ResG w g ok e w') := by
  by_cases hd : ∃ g, checkB g = true ∧ putL g = b
  · obtain ⟨g, hc, rfl⟩ := hd
    refine ⟨g, true, (check_parts hc).2, fun w e w' => ⟨fun hr => ?_, fun hr => ?_⟩⟩
    · obtain ⟨A, c, he, hs, _, _, hb⟩ := get_back hc hr
      exact ⟨A, c, he, hs, hb⟩
    · obtain ⟨k, h1, hb, h3⟩ := hr
      rcases h3 with ⟨hn, h3⟩ | ⟨hy, ht, rfl⟩
      · obtain ⟨_, hg⟩ := get_put hc h1 fun h => absurd h hn
        rw [hg] at h3
        rcases h3 with ⟨_, _, A, c, he, hs, _, _⟩ | ⟨hno, _⟩
        · exact ⟨A, c, he, hs, hb⟩
        · exact absurd ⟨hc, rfl⟩ hno
      · exfalso
        obtain ⟨k0, q1, q2⟩ := runs_stop (putL g)
        obtain ⟨e0, _⟩ := get_put hc q1 fun h => absurd h q2
        by_cases hk : k < g.length
        · have h4 := (put_at hc (List.getElem?_eq_getElem hk)).2
          have hm := may_size (okTo_may (check_parts hc).1 g[k] (List.getElem_mem hk))
          rw [← h4] at hm
          have h5 : (getE (putL g) k).1 = str [] := by
            unfold getE tS
            rw [ht]
            rfl
          rw [h5] at hm
          have : (str []).size = 0 := rfl
          omega
        · by_cases hk2 : k = g.length
          · rw [hk2, ← e0] at hy
            exact q2 hy
          · exact q2 (by rw [e0]; exact h1 _ (by omega))
  · refine ⟨[], false, by simp, fun w e w' => ⟨fun hr => ?_, fun hr => ?_⟩⟩
    · obtain ⟨k, _, _, _, hb, h3⟩ := hr
      rcases h3 with ⟨h4, h5, _⟩ | ⟨_, rfl⟩
      · exact absurd ⟨_, h4, h5⟩ hd
      · exact ResG.no hb
    · obtain ⟨k, _, hb, h3⟩ := hr
      rcases h3 with ⟨_, ⟨h4, h5, _⟩ | ⟨_, rfl⟩⟩ | ⟨_, _, rfl⟩
      · exact absurd ⟨_, h4, h5⟩ hd
      · exact ResG.no hb
      · exact ResG.no hb
end Go.Proofs.Ytifbbbphoponcaa.Dr
