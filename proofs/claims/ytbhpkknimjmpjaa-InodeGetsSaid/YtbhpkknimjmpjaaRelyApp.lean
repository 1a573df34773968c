/-
  append within a region that draws its order: bytes of a slice, onto a row of the call's own.
-/
import Derived.Test.YtbhpkknimjmpjaaRely
import Derived.Test.YtbhpkknimjmpjaaWireI
namespace Go.Proofs.Ytbhpkknimjmpjaa.Wi
open Go.RowKit Wd
set_option linter.unusedVariables false

/-- bytes L, in a row of the call's own from block b on -/
def BO (w : World) (b : Nat) (L : List UInt8) (u : Value) : Prop := ∃ A c, u = .slice A L.length c ∧ w.ownsRow b 5 1 (.slice A L.length c) L.length (L.map bv)
theorem own_keep {w w' : World} {b : Nat} {e : TypeId} {size n : Nat} {v : Value} {xs : List Value} (h : w.ownsRow b e size v n xs) (hk : ∀ g, v.ownBlock = some g → w'.heap[g]? = w.heap[g]?) : w'.ownsRow b e size v n xs := by
  refine ⟨h.1, ?_⟩
  rcases h.2 with hn | ⟨g, cap, cur, rfl, hb, hgg, rest⟩
  · exact .inl hn
  · exact .inr ⟨g, cap, cur, rfl, hb, (hk g rfl).trans hgg, rest⟩
theorem own_lt {w : World} {b : Nat} {e : TypeId} {size n : Nat} {v : Value} {xs : List Value} (h : w.ownsRow b e size v n xs) (g : Nat) (hg : v.ownBlock = some g) : b ≤ g ∧ g < w.heap.size := by
  rcases h.2 with ⟨rfl, _⟩ | ⟨g', cap, cur, rfl, hb, hgg, rest⟩
  · cases hg
  · have : g' = g := by simpa [Value.ownBlock] using hg
    subst this
    exact ⟨hb, (Array.getElem?_eq_some_iff.1 hgg).1⟩
theorem BO.kept {w w' : World} {b : Nat} {L : List UInt8} {u : Value} (h : BO w b L u) (hk : Kept w w') : BO w' b L u := by
  obtain ⟨A, c, rfl, ho⟩ := h
  exact ⟨A, c, rfl, own_keep ho fun g hg => hk.block g (own_lt ho g hg).2⟩
theorem own_low {w : World} {b b' : Nat} {e : TypeId} {size n : Nat} {v : Value} {xs : List Value} (h : w.ownsRow b e size v n xs) (hb : b' ≤ b) : w.ownsRow b' e size v n xs := by
  refine ⟨h.1, ?_⟩
  rcases h.2 with hn | ⟨g, cap, cur, hv, hg, rest⟩
  · exact .inl hn
  · exact .inr ⟨g, cap, cur, hv, by omega, rest⟩

/-- 'append(s, x...)' of bytes: what was there does not turn, but for s's own row -/
theorem wp_append_bytes {a : Act} {w : World} {K : Act → World → Prop} {Q : Exit → Act → World → Prop} {o : Oper} {s x : Operand} (ho : o.op = .call { callee := .builtin .append, args := #[s, x], argTypes := #[22, 22] })
    (b : Nat) (hb : b ≤ w.heap.size) {A A2 : Option Addr} {c c2 : Nat} {L M : List UInt8} (hs : a.eval s = .slice A L.length c) (hx : a.eval x = .slice A2 M.length c2)
    (hL : w.ownsRow b 5 1 (.slice A L.length c) L.length (L.map bv)) {B2 : Nat} (hM : Sl w B2 1 A2 M.length (M.map bv)) (hlen : L.length + M.length ≤ 1000000)
    (hK : ∀ u w', BO w' b (L ++ M) u → Below b w w' → (∀ g, g < w.heap.size → (Value.slice A L.length c).ownBlock ≠ some g → w'.heap[g]? = w.heap[g]?) → K (a.put o.dst u) w') : Oper.wp Try.prog o a w K Q := by
  obtain ⟨i0, hi, hz0, hz1, hz2⟩ := info_parts infoB
  obtain ⟨v', w', hr, h1, h2, h3, h4, h5⟩ := run_append_mine (P := Try.prog) w b 22 22 o.type 5 i0 (.int .u8 0) 1 1 hz1 hz2 rfl (by decide) _ _ _ (.inr hL) (.slice A2 M.length c2) M.length (M.map bv)
    (Gives.slice Try.underlying22 hi hz0 (by rw [hz1]; exact hM) (bv_one M)) (by simp only [maxLen]; omega) (by omega) hb
  obtain ⟨A', c', rfl, _⟩ := h1.form
  have hown := h5 (.inr hL)
  unfold Oper.wp execOp
  simp only [ho, resolve, invoke, builtin, Sem.run_bind, Sem.run_pure, Result.andThen_ok, List.map_toArray, List.map_cons, List.map_nil, hs, hx, hr]
  refine hK _ _ ⟨A', c', by rw [List.length_append], ?_⟩ h3 (fun g hg hne => h2.block g hg (fun e => hne e.symm))
  rw [List.length_append, List.map_append]
  exact hown
end Go.Proofs.Ytbhpkknimjmpjaa.Wi
