/-
  'WireBack' walked: a number and a text that are put are read.
-/
import Derived.Test.YtbjfjbndekcboaaWire7
import Derived.Test.YtbjfjbndekcboaaWireLaw
namespace Go.Proofs.Ytbjfjbndekcboaa.Wi
open Go.RowKit Wd
set_option linter.unusedVariables false
attribute [local go_sem] str_toList str_append str_size

set_option maxRecDepth 20000 in
set_option maxHeartbeats 800000 in
theorem wireBack_walk (v n : Int) (s : ByteArray) (m : Int) (w : World) (hv : -9223372036854775808 ≤ v) (hv2 : v ≤ 9223372036854775807) (hn : -9223372036854775808 ≤ n) (hn2 : n ≤ 9223372036854775807)
    (hsz : s.size ≤ 140737488351232) (hm : -9223372036854775808 ≤ m) (hm2 : m ≤ 9223372036854775807) :
    Calls Try.prog 7 #[.int .i64 v, .int .i64 n, .string s, .int .i64 m] w fun e w' => e = .returned (.bool true) ∧ Below w.heap.size w w' := by
  have HP := Lib.hid (fun w => place_any n 7 w (by omega) (by omega) hn hn2)
  obtain ⟨h0, h1⟩ := place_bd n 7 (by omega)
  have HR := Lib.hid (fun w => place_any m 256 w (by omega) (by omega) hm hm2)
  obtain ⟨h2, h3⟩ := place_bd m 256 (by omega)
  generalize placeZ n 7 = p at *
  generalize placeZ m 256 = r at *
  obtain ⟨p, rfl⟩ := Int.eq_ofNat_of_zero_le h0
  obtain ⟨r, rfl⟩ := Int.eq_ofNat_of_zero_le h2
  have e1 : (min (1 + (p : Int)) 8).toNat = 1 + p := by omega
  have HPut := Lib.hid (fun w => put_any none [] 0 v (1 + (p : Int)) w (Sl.nil _) (by simp) (by simp) hv hv2 (by omega) (by omega))
  rw [e1, List.nil_append] at HPut
  have hpl := putB_len v (1 + p)
  have hseg : (leN (seg (putB v (1 + p)) 0 (1 + p)) : Int) = v % 256 ^ (1 + p) := by rw [seg_whole _ _ hpl, leN_putB]
  obtain ⟨V, hV⟩ : ∃ V, V = v % 256 ^ (1 + p) := ⟨_, rfl⟩
  rw [← hV] at hseg
  have HV := Lib.hid hV
  have HG := Lib.hid hseg
  clear hV
  clear hseg e1
  generalize putB v (1 + p) = l at *
  have HL := Lib.hid hpl
  clear hpl
  go_enter Try.func7, Try.ntmps7
  go_wp2_with fail
  refine (HP.out _).mono ?_
  rintro e w1 ⟨rfl, rfl⟩
  go_wp2_with fail
  refine (HPut.out _).mono ?_
  rintro e w1 ⟨A1, c1, rfl, hs1, hlc1, hcm1, hb1⟩
  go_wp2_with fail
  refine (get_yes A1 l c1 0 (1 + (p : Int)) w1 hs1 hlc1 hcm1 (by omega) (by omega) (by omega) (by have := HL.out; omega)).mono ?_
  rw [show ((0 : Int).toNat) = 0 from rfl, show ((1 + (p : Int)).toNat) = 1 + p from by omega, HG.out]
  rintro e w2 ⟨rfl, rfl⟩
  have hVm : (V != bits BinOp.and IntKind.i64 v (wrap64 (wrap64 (2 ^ (8 * (1 + p))) - 1))) = false := by rw [mask_form v (1 + p) (by omega), HV.out]; simp
  have hb10 := hb1.size
  have hnew := Sl.newRow w1 [.int .u8 7] 5 1 rfl
  have HN := Lib.hid hnew
  clear hnew
  have hs0 : (0 : Int) ≤ (s.size : Int) := by omega
  have hs1' : (s.size : Int) ≤ 140737488351232 := by omega
  by_cases hsr : s.size ≤ r
  · have hsrI : (s.size : Int) ≤ (r : Int) := by omega
    have HT := Lib.hid (fun A w hs => text_yes' A [7] 1 s (r : Int) w hs (by simp) (by simp) (by omega) (by omega) hsrI)
    have hlen : ([7] ++ txt s r).length = r + 2 := by simp [txt_len s r hsr]
    have hback := text_back [7] [] s r hsr (by omega)
    rw [List.append_nil, show ([7] : List UInt8).length = 1 from rfl] at hback
    rw [Int.toNat_natCast] at HT
    generalize [7] ++ txt s r = L at *
    have hlenb : ((L.length : Int) == (r : Int) + 2) = true := by rw [hlen]; simp
    have HB := Lib.hid hback
    have HLL := Lib.hid hlen
    clear hback hlen
    go_wp2_with fail
    refine (HR.out _).mono ?_
    rintro e w2 ⟨rfl, rfl⟩
    go_wp2_with fail
    refine (HT.out _ _ HN.out).mono ?_
    rintro e w2 ⟨A2, c2, rfl, ho2, hb2⟩
    have hs2 := Sl.own ho2
    have hlc2 : L.length ≤ c2 ∧ c2 ≤ maxLen := by
      obtain ⟨_, _, hv, h1, h2, _⟩ := Mine.form (.inr ho2)
      injection hv with _ _ hc
      subst hc
      exact ⟨h1, h2⟩
    have hb20 := hb2.size
    simp at hb20
    have HS2 := Lib.hid (And.intro hs2 hlc2)
    clear hs2 hlc2 ho2 hs1 hcm1 hlc1
    go_wp2_with fail
    refine (gtext_yes A2 L c2 1 (r : Int) w2 HS2.out.1 HS2.out.2.1 HS2.out.2.2 (by omega) (by omega) (by omega) (by have := HLL.out; omega)).mono ?_
    rw [show ((1 : Int).toNat) = 1 from rfl, Int.toNat_natCast, HB.out.1, HB.out.2, str_of]
    rintro e w3 ⟨rfl, rfl⟩
    go_wp2_with (go_at_call 13; refine (awake_any w2).mono ?_; rintro e w3 ⟨rfl, hb3⟩)
    go_ret
    exact ⟨rfl, (hb1.alloc hb10 _).trans ((hb2.mono (by simp; omega)).trans (hb3.mono (by omega)))⟩
  · have hsrI : (r : Int) < (s.size : Int) := by omega
    have HT := Lib.hid (fun A w => text_no A 1 1 s (r : Int) w (by omega) (.inr (.inr hsrI)))
    go_wp2_with fail
    refine (HR.out _).mono ?_
    rintro e w2 ⟨rfl, rfl⟩
    go_wp2_with fail
    refine (HT.out _ _).mono ?_
    rintro e w2 ⟨rfl, rfl⟩
    go_wp2_with (go_at_call 13; refine (awake_any _).mono ?_; rintro e w3 ⟨rfl, hb3⟩)
    go_ret
    exact ⟨rfl, (hb1.alloc hb10 _).trans (hb3.mono (by simp; omega))⟩
end Go.Proofs.Ytbjfjbndekcboaa.Wi
