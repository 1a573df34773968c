/-
  dir: Find, and the document's; Entries, SameEntries.
-/
import Derived.Test.YtifbbbphoponcaaDir4
namespace Go.Proofs.Ytifbbbphoponcaa.Dr
open Go.RowKit Wd
set_option linter.unusedVariables false

theorem find_drop {l : List En} {k : Nat} {x : En} (h : l[k]? = some x) (s : ByteArray) : findV (l.drop k) s = if x.1 = s then (x.2, true) else findV (l.drop (k + 1)) s := by
  have hlt : k < l.length := (List.getElem?_eq_some_iff.1 h).1
  have he : l[k] = x := (List.getElem?_eq_some_iff.1 h).2
  rw [List.drop_eq_getElem_cons hlt, he]
  rfl
section
variable (A : Option Addr) (l : List En) (c : Nat) (s : ByteArray) (w : World)
theorem find_any (hs : Sl w w.heap.size 2 A l.length (ecs l)) (hk : l.length ≤ 17592186044416) :
    Calls Try.prog 22 #[.slice A l.length c, .string s] w fun e w' => e = .returned (.tuple #[.int .i64 (findV l s).1, .bool (findV l s).2]) ∧ Below w.heap.size w w' := by
  have HS := Lib.hid hs
  clear hs
  go_enter Try.func22, Try.ntmps22
  go_wp2_with fail
  go_loopw [10] (fun i wr => ∃ k : Nat, k ≤ l.length ∧ i = .int .i64 (k : Int) ∧ findV l s = findV (l.drop k) s ∧ Below w.heap.size w wr) (fun i _ => l.length - (intOf i).toNat)
  case atStart => exact ⟨0, by omega, rfl, rfl, Below.refl _ _⟩
  case round =>
    obtain ⟨k, hk2, rfl, hf, hbel⟩ := hrel
    have HF := Lib.hid hf
    have HB := Lib.hid hbel
    clear hf hbel
    by_cases hlt : k < l.length
    · have hltI : (k : Int) < (l.length : Int) := by omega
      have hk0 : (0 : Int) ≤ (k : Int) := by omega
      obtain ⟨x, hx⟩ : ∃ x, l[k]? = some x := ⟨_, List.getElem?_eq_getElem hlt⟩
      have hA : ∃ b off, A = some ⟨b, off, none⟩ := by
        obtain ⟨b, off, e, _⟩ := HS.out.at (by omega) (by decide)
        exact ⟨b, off, e⟩
      obtain ⟨b, off, rfl⟩ := hA
      obtain ⟨hrx0, hb0⟩ := ent_range HS.out hx
      have hrx := range_keep hrx0 (HB.out.block b hb0)
      have HD := Lib.hid (find_drop hx s)
      clear hrx0 hx
      obtain ⟨xs, xi⟩ := x
      by_cases he : xs = s
      · have HV : Hid (findV l s = (xi, true)) := by
          show _ = _
          rw [HF.out, HD.out, if_pos he]
        have heb : (xs.toList == s.toList) = true := eqS_iff.2 he
        clear he
        go_wp2_with ((with_reducible show wpList _ _ _ (⟨some 13, _, _, _, _, _⟩ :: _) _ _); refine wpList_load_ent rfl _ rfl rfl hrx ?_)
        go_ret2
        exact ⟨by rw [HV.out]; rfl, HB.out.alloc HB.out.size _⟩
      · have HV : Hid (findV l s = findV (l.drop (k + 1)) s) := by
          show _ = _
          rw [HF.out, HD.out, if_neg he]
        have heb : (xs.toList == s.toList) = false := eqS_no he
        clear he
        go_wp2_with ((with_reducible show wpList _ _ _ (⟨some 13, _, _, _, _, _⟩ :: _) _ _); refine wpList_load_ent rfl _ rfl rfl hrx ?_)
        go_roundw
        case rel => exact ⟨k + 1, by omega, by go_num, HV.out, HB.out.alloc HB.out.size _⟩
        case measure => simp [intOf]; omega
    · have hge : (l.length : Int) ≤ (k : Int) := by omega
      have HV : Hid (findV l s = (0, false)) := by
        show _ = _
        rw [HF.out, List.drop_of_length_le (by omega)]
        rfl
      go_wp2_with fail
      go_ret2
      exact ⟨by rw [HV.out]; rfl, HB.out⟩
theorem rfind_any (hs : Sl w w.heap.size 2 A l.length (ecs l)) (hk : l.length ≤ 17592186044416) :
    Calls Try.prog 23 #[.slice A l.length c, .string s] w fun e w' => e = .returned (.tuple #[.int .i64 (findV l s).1, .bool (findV l s).2]) ∧ w = w' := by
  have HS := Lib.hid hs
  clear hs
  go_enter Try.func23, Try.ntmps23
  go_wp2_with fail
  go_loop [6] (fun i => ∃ k : Nat, k ≤ l.length ∧ i = .int .i64 (k : Int) ∧ findV l s = findV (l.drop k) s) (fun i => l.length - (intOf i).toNat)
  case atStart => exact ⟨0, by omega, rfl, rfl⟩
  case round =>
    obtain ⟨k, hk2, rfl, hf⟩ := hrel
    have HF := Lib.hid hf
    clear hf
    by_cases hlt : k < l.length
    · have hltI : (k : Int) < (l.length : Int) := by omega
      have hk0 : (0 : Int) ≤ (k : Int) := by omega
      obtain ⟨x, hx⟩ : ∃ x, l[k]? = some x := ⟨_, List.getElem?_eq_getElem hlt⟩
      have hA : ∃ b off, A = some ⟨b, off, none⟩ := by
        obtain ⟨b, off, e, _⟩ := HS.out.at (by omega) (by decide)
        exact ⟨b, off, e⟩
      obtain ⟨b, off, rfl⟩ := hA
      obtain ⟨hrx, hb0⟩ := ent_range HS.out hx
      have hc0 := range_name hrx
      have hc1 := range_ino hrx
      have HD := Lib.hid (find_drop hx s)
      clear hrx hx
      obtain ⟨xs, xi⟩ := x
      by_cases he : xs = s
      · have HV : Hid (findV l s = (xi, true)) := by
          show _ = _
          rw [HF.out, HD.out, if_pos he]
        have heb : (xs.toList == s.toList) = true := eqS_iff.2 he
        clear he
        go_wp2_with fail
        go_ret2
        exact ⟨by rw [HV.out]; rfl, rfl⟩
      · have HV : Hid (findV l s = findV (l.drop (k + 1)) s) := by
          show _ = _
          rw [HF.out, HD.out, if_neg he]
        have heb : (xs.toList == s.toList) = false := eqS_no he
        clear he
        go_wp2_with fail
        go_round
        case rel => exact ⟨k + 1, by omega, by go_num, HV.out⟩
        case measure => simp [intOf]; omega
    · have hge : (l.length : Int) ≤ (k : Int) := by omega
      have HV : Hid (findV l s = (0, false)) := by
        show _ = _
        rw [HF.out, List.drop_of_length_le (by omega)]
        rfl
      go_wp2_with fail
      go_ret2
      exact ⟨by rw [HV.out]; rfl, rfl⟩
end
end Go.Proofs.Ytifbbbphoponcaa.Dr
