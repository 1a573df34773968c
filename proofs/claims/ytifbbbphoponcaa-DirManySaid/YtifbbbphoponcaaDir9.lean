/-
  dir: what Put makes, Get reads back; the law's awake.
-/
import Derived.Test.YtifbbbphoponcaaDir8
import Derived.Test.YtifbbbphoponcaaWireLaw
namespace Go.Proofs.Ytifbbbphoponcaa.Dr
open Go.RowKit Wd Wi
set_option linter.unusedVariables false
attribute [local go_sem] str_toList str_append str_size

theorem ents_split {l : List En} {j : Nat} {x : En} (h : l[j]? = some x) : entsB l = entsB (l.take j) ++ (entB x ++ entsB (l.drop (j + 1))) := by
  have hlt := (List.getElem?_eq_some_iff.1 h).1
  have he := (List.getElem?_eq_some_iff.1 h).2
  have e : l = l.take j ++ x :: l.drop (j + 1) := by
    rw [← he, ← List.drop_eq_getElem_cons hlt, List.take_append_drop]
  have : entsB l = entsB (l.take j ++ x :: l.drop (j + 1)) := congrArg entsB e
  rw [this]
  unfold entsB
  rw [List.flatMap_append, List.flatMap_cons]
theorem getE_at (pre post : List UInt8) (x : En) (j : Nat) (hp : pre.length = 32 * j) (h : mayB x = true) : runs (pre ++ (entB x ++ post)) j ∧ getE (pre ++ (entB x ++ post)) j = x := by
  obtain ⟨h1, h2, h3, h4⟩ := may_size h
  have e : pre ++ (entB x ++ post) = pre ++ txt x.1 20 ++ (putB x.2 1 ++ List.replicate 10 0 ++ post) := by simp [entB]
  have hb := text_back pre (putB x.2 1 ++ List.replicate 10 0 ++ post) x.1 20 h2 (by decide)
  have hl := entB_len h2
  have htl := txt_len x.1 20 h2
  refine ⟨⟨by rw [List.length_append, List.length_append, hl]; omega, ?_⟩, ?_⟩
  · rw [e, List.append_assoc, List.getD_eq_getElem?_getD, List.getElem?_append_right (by omega), hp, Nat.sub_self]
    unfold txt
    simp
    omega
  · unfold getE
    have e2 : seg (pre ++ (entB x ++ post)) (32 * j + 21) 1 = putB x.2 1 := by
      unfold seg
      rw [e, List.append_assoc, List.append_assoc, ← List.append_assoc, List.drop_append_of_le_length (by rw [List.length_append]; omega), List.drop_of_length_le (by rw [List.length_append]; omega), List.nil_append,
        List.take_append_of_le_length (by rw [putB_len]; exact Nat.le_refl _), List.take_of_length_le (by rw [putB_len]; exact Nat.le_refl _)]
    rw [e2]
    have e3 := leN_putB x.2 1
    rw [e3, show x.2 % 256 ^ 1 = x.2 by omega, e]
    rw [hp] at hb
    rw [hb.2, str_of]
theorem put_len {l : List En} (h : checkB l = true) : (putL l).length = 128 * ((l.length + 3) / 4) := by
  unfold putL
  rw [List.length_append, List.length_replicate, entsB_len fun x hx => (may_size (okTo_may (check_parts h).1 x hx)).2.1]
  omega
theorem get_put {l : List En} (h : checkB l = true) {k : Nat} (hr : ∀ j, j < k → runs (putL l) j) (hs : runs (putL l) k → 64 < k) : k = l.length ∧ getTo (putL l) k = l := by
  obtain ⟨hok, hlen⟩ := check_parts h
  have hm := okTo_may hok
  have hsz : ∀ j, j ≤ l.length → (entsB (l.take j)).length = 32 * j := fun j hj => by
    rw [entsB_len fun x hx => (may_size (hm x (List.mem_of_mem_take hx))).2.1, List.length_take]
    omega
  have hall := entsB_len fun x hx => (may_size (hm x hx)).2.1
  have hat : ∀ j x, l[j]? = some x → runs (putL l) j ∧ getE (putL l) j = x := fun j x hx => by
    have hlt := (List.getElem?_eq_some_iff.1 hx).1
    have e : putL l = entsB (l.take j) ++ (entB x ++ (entsB (l.drop (j + 1)) ++ List.replicate (128 * ((l.length + 3) / 4) - 32 * l.length) 0)) := by
      unfold putL
      rw [ents_split hx]
      simp
    rw [e]
    exact getE_at _ _ x j (hsz j (by omega)) (hm x (List.mem_of_getElem? hx))
  have hend : ¬ runs (putL l) l.length := fun hh => by
    refine hh.2 ?_
    unfold putL
    rw [List.getD_eq_getElem?_getD, List.getElem?_append_right (by omega), hall, Nat.sub_self]
    cases hz : (List.replicate (128 * ((l.length + 3) / 4) - 32 * l.length) (0 : UInt8))[0]? with
    | none => rfl
    | some z =>
      have := List.mem_of_getElem? hz
      rw [List.eq_of_mem_replicate this]
      rfl
  have hk : k = l.length := by
    by_cases h1 : k < l.length
    · have := hs (hat k _ (List.getElem?_eq_getElem h1)).1
      omega
    · by_cases h2 : l.length < k
      · exact absurd (hr _ h2) hend
      · omega
  subst hk
  refine ⟨rfl, ?_⟩
  apply List.ext_getElem?
  intro i
  unfold getTo
  rw [List.getElem?_map]
  by_cases hi : i < l.length
  · rw [List.getElem?_range hi]
    have := (hat i _ (List.getElem?_eq_getElem hi)).2
    simp [this, List.getElem?_eq_getElem hi]
  · rw [List.getElem?_eq_none (by simpa using hi), List.getElem?_eq_none (by omega)]
    rfl
theorem get_back {w w' : World} {l : List En} {e : Ending} (h : checkB l = true) (hr : GetR w (putL l) e w') :
    ∃ A c, e = .returned (.tuple #[.slice A l.length c, .bool true]) ∧ Sl w' w'.heap.size 2 A l.length (ecs l) ∧ l.length ≤ c ∧ c ≤ maxLen ∧ Below w.heap.size w w' := by
  obtain ⟨k, _, h1, h2, hb, h3⟩ := hr
  obtain ⟨_, hg⟩ := get_put h h1 h2
  rw [hg] at h3
  rcases h3 with ⟨_, _, A, c, he, hs, hc, hm⟩ | ⟨hn, _⟩
  · exact ⟨A, c, he, hs, hc, hm, hb⟩
  · exact absurd ⟨h, rfl⟩ hn

/-- the document's example -/
def exE : List En := [(⟨#[97]⟩, 3)]
theorem exE_check : checkB exE = true := by decide +kernel
theorem name_ex1 (w : World) : Calls Try.prog 20 #[.string ⟨#[97, 45, 98, 46, 99]⟩] w fun e w' => e = .returned (.bool true) ∧ w = w' := by
  have h := name_any ⟨#[97, 45, 98, 46, 99]⟩ (by decide) w
  rw [show nameB ⟨#[97, 45, 98, 46, 99]⟩ = true by decide +kernel] at h
  exact h
theorem name_ex2 (w : World) : Calls Try.prog 20 #[.string ⟨#[46, 46]⟩] w fun e w' => e = .returned (.bool false) ∧ w = w' := by
  have h := name_any ⟨#[46, 46]⟩ (by decide) w
  rw [show nameB ⟨#[46, 46]⟩ = false by decide +kernel] at h
  exact h
set_option maxHeartbeats 1600000 in
theorem awake_any (w : World) : Calls Try.prog 10 #[] w fun e w' => e = .returned (.bool true) ∧ Below w.heap.size w w' := by
  have HP : Hid (∀ w1, Sl w1 w1.heap.size 2 (some ⟨w.heap.size, 0, none⟩) 1 (ecs exE) → Calls Try.prog 11 #[.slice (some ⟨w.heap.size, 0, none⟩) 1 1] w1 (Res2 w1 (putL exE) true)) :=
    Lib.hid fun w1 h => put_yes _ exE 1 w1 h (fun x hx => by simp [exE] at hx; subst hx; unfold goodE; decide) exE_check
  have hpl : (putL exE).length = 128 := put_len exE_check
  have hnew : Sl (w.alloc (.cells #[.string ⟨#[97]⟩, .int .i64 3] 40)) (w.alloc (.cells #[.string ⟨#[97]⟩, .int .i64 3] 40)).heap.size 2 (some ⟨w.heap.size, 0, none⟩) 1 (ecs exE) := by
    refine ⟨rfl, fun _ => ⟨_, rfl, by simp, fun j u hu => ?_⟩⟩
    rw [Addr.add_lit, cell_of_row _ _ _ _ _ (0, 0) (heap_alloc_new w _), Nat.zero_add]
    simpa [ecs, exE] using hu
  have HNEW := Lib.hid hnew
  have HPL := Lib.hid hpl
  clear hnew hpl
  go_enter Try.func10, Try.ntmps10
  go_wp2_with fail
  refine (HP.out _ HNEW.out).mono ?_
  rintro e w2 ⟨A2, c2, rfl, hs2, hc2, hm2, hb2⟩
  have HG := Lib.hid (get_any A2 (putL exE) c2 w2 hs2 hc2 hm2 (by rw [HPL.out]; decide))
  rw [HPL.out] at HG
  rw [HPL.out]
  have HB2 := Lib.hid (((Below.refl w.heap.size w).alloc (Nat.le_refl _) _).trans (Below.mono hb2 (by simp)))
  clear hs2 hc2 hm2 hb2
  go_wp2_with fail
  refine HG.out.mono ?_
  intro e w3 h3
  obtain ⟨A3, c3, rfl, hs3, hc3, hm3, hb3⟩ := get_back exE_check h3
  have hA : ∃ b off, A3 = some ⟨b, off, none⟩ := by
    obtain ⟨b, off, e, _⟩ := hs3.at (by decide) (by decide)
    exact ⟨b, off, e⟩
  obtain ⟨b, off, rfl⟩ := hA
  have hcell := range_ino (ent_range hs3 (k := 0) (x := (⟨#[97]⟩, 3)) rfl).1
  rw [Nat.zero_mul, Nat.add_zero] at hcell
  simp only at hcell
  have HB3 := Lib.hid (HB2.out.trans (Below.mono hb3 HB2.out.size))
  rw [show exE.length = 1 from rfl]
  clear h3 hs3 hc3 hm3 hb3
  go_wp2_with fail
  refine (name_ex1 _).mono ?_
  rintro e w' ⟨rfl, rfl⟩
  go_wp2_with fail
  refine (name_ex2 _).mono ?_
  rintro e w' ⟨rfl, rfl⟩
  go_wp2_with fail
  go_ret
  exact ⟨rfl, HB3.out⟩
end Go.Proofs.Ytifbbbphoponcaa.Dr
