/-
  'WireClean' walked: a text behind which something stands in its room is none.
-/
import Derived.Test.YtbjfjbndekcboaaWire7
import Derived.Test.YtbjfjbndekcboaaWireLaw
namespace Go.Proofs.Ytbjfjbndekcboaa.Wi
open Go.RowKit Wd
set_option linter.unusedVariables false
attribute [local go_sem] str_toList str_append str_size

theorem xor_zero (y : Int) (h0 : 0 ≤ y) (h1 : y ≤ 255) : bits BinOp.xor IntKind.u8 0 y = y := by
  obtain ⟨y, rfl⟩ := Int.eq_ofNat_of_zero_le h0
  show IntKind.u8.wrap ((BitVec.ofInt 8 0 ^^^ BitVec.ofInt 8 (y : Int)).toNat : Int) = _
  rw [BitVec.toNat_xor, BitVec.ofInt_natCast, BitVec.toNat_ofNat]
  have h2 : (BitVec.ofInt 8 0).toNat = 0 := by decide
  rw [h2, Nat.zero_xor, Nat.mod_eq_of_lt (by omega), IntKind.wrap_u8]
  omega

theorem clean_law (s : ByteArray) (N K : Nat) (y : UInt8) (hs : s.size < N) (hN : N ≤ 255) (hK : K < N - s.size) :
    (y = 0 → tB ((txt s N).set (1 + s.size + K) y) 0 N = true ∧ tS ((txt s N).set (1 + s.size + K) y) 0 N = s.data.toList) ∧
    (y ≠ 0 → tB ((txt s N).set (1 + s.size + K) y) 0 N = false ∧ tS ((txt s N).set (1 + s.size + K) y) 0 N = []) := by
  have hlen := txt_len s N (by omega)
  have hsz : (UInt8.ofNat s.size).toNat = s.size := by rw [UInt8.toNat_ofNat']; exact Nat.mod_eq_of_lt (by omega)
  have hat : (txt s N)[1 + s.size + K]? = some 0 := by
    unfold txt
    rw [show 1 + s.size + K = (s.size + K) + 1 by omega, List.getElem?_cons_succ, List.getElem?_append_right (by rw [size_data]; omega), size_data, List.getElem?_replicate, if_pos (by omega)]
  constructor
  · rintro rfl
    have hset : (txt s N).set (1 + s.size + K) 0 = txt s N := by
      apply List.ext_getElem?
      intro i
      rw [List.getElem?_set]
      split
      · rename_i h
        subst h
        rw [hat, if_pos (by omega)]
      · rfl
    have := text_back [] [] s N (by omega) hN
    simp only [List.nil_append, List.append_nil, List.length_nil] at this
    rw [hset]
    exact this
  · intro hy
    have h0 : ((txt s N).set (1 + s.size + K) y).getD 0 0 = UInt8.ofNat s.size := by
      rw [List.getD_eq_getElem?_getD, List.getElem?_set_ne (by omega)]
      simp [txt]
    have hx : (seg ((txt s N).set (1 + s.size + K) y) (0 + 1 + s.size) (N - s.size))[K]? = some y := by
      unfold seg
      rw [List.getElem?_take, if_pos hK, List.getElem?_drop, show 0 + 1 + s.size + K = 1 + s.size + K by omega, List.getElem?_set_self (by omega)]
    have hf : tB ((txt s N).set (1 + s.size + K) y) 0 N = false := by
      unfold tB
      rw [h0, hsz, all_not _ K y hx (fun h => hy (UInt8.toNat_inj.1 (by simpa using h))), Bool.and_false]
    refine ⟨hf, ?_⟩
    unfold tS
    rw [hf]
    rfl

set_option maxHeartbeats 1600000 in
theorem wireClean_walk (s : ByteArray) (room at_ by_ : Int) (w : World) (hsz : s.size ≤ 140737488351232) (hr : -9223372036854775808 ≤ room) (hr2 : room ≤ 9223372036854775807) (ha : -9223372036854775808 ≤ at_) (ha2 : at_ ≤ 9223372036854775807)
    (hb : 0 ≤ by_) (hb2 : by_ ≤ 255) :
    Calls Try.prog 5 #[.string s, .int .i64 room, .int .i64 at_, .int .u8 by_] w fun e w' => e = .returned (.bool true) ∧ Below w.heap.size w w' := by
  have hs0 : (0 : Int) ≤ (s.size : Int) := by omega
  have hs1 : (s.size : Int) ≤ 140737488351232 := by omega
  have hm1 := Int.tmod_lt_of_pos room (show 0 < (256 : Int) by omega)
  have hm2 := Int.lt_tmod_of_pos room (show 0 < (256 : Int) by omega)
  -- the room as a number
  have hroom : ∃ N : Nat, N ≤ 255 ∧ ((room.tmod 256 < 0 ∧ room.tmod 256 + 256 = (N : Int)) ∨ (0 ≤ room.tmod 256 ∧ room.tmod 256 = (N : Int))) := by
    by_cases h : room.tmod 256 < 0
    · exact ⟨(room.tmod 256 + 256).toNat, by omega, .inl ⟨h, by omega⟩⟩
    · exact ⟨(room.tmod 256).toNat, by omega, .inr ⟨by omega, by omega⟩⟩
  obtain ⟨N, hN, hroom⟩ := hroom
  have HX := Lib.hid (xor_zero by_ hb hb2)
  by_cases hsn : s.size ≤ N
  · have hsnI : (s.size : Int) ≤ (N : Int) := by omega
    have HT := Lib.hid (text_yes' none [] 0 s (N : Int) w (Sl.nil _) (by simp) (by simp) (by omega) (by omega) hsnI)
    rw [Int.toNat_natCast, List.nil_append] at HT
    have hlen := txt_len s N hsn
    by_cases hge : N ≤ s.size
    · have hgeI : (N : Int) ≤ (s.size : Int) := by omega
      generalize txt s N = L at *
      have HLL := Lib.hid hlen
      clear hlen
      rcases hroom with ⟨hneg, hrw⟩ | ⟨hpos, hrw⟩
      all_goals
        go_enter Try.func5, Try.ntmps5
        go_wp2_with fail
        clear hrw
        refine HT.out.mono ?_
        rintro e w2 ⟨A2, c2, rfl, ho2, hb3⟩
        clear ho2
        go_wp2_with (go_at_call 13; refine (awake_any w2).mono ?_; rintro e w3 ⟨rfl, hb4⟩)
        go_ret
        exact ⟨rfl, hb3.trans (hb4.mono hb3.size)⟩
    · have hltI : (s.size : Int) < (N : Int) := by omega
      have hD : (1 : Int) ≤ (N : Int) - (s.size : Int) := by omega
      have hk1 := Int.tmod_lt_of_pos at_ (show 0 < (N : Int) - (s.size : Int) by omega)
      have hk2 := Int.lt_tmod_of_pos at_ (show 0 < (N : Int) - (s.size : Int) by omega)
      have hplace : ∃ K : Nat, K < N - s.size ∧ ((at_.tmod ((N : Int) - (s.size : Int)) < 0 ∧ at_.tmod ((N : Int) - (s.size : Int)) + (N : Int) - (s.size : Int) = (K : Int)) ∨ (0 ≤ at_.tmod ((N : Int) - (s.size : Int)) ∧ at_.tmod ((N : Int) - (s.size : Int)) = (K : Int))) := by
        by_cases h : at_.tmod ((N : Int) - (s.size : Int)) < 0
        · exact ⟨(at_.tmod ((N : Int) - (s.size : Int)) + (N : Int) - (s.size : Int)).toNat, by omega, .inl ⟨h, by omega⟩⟩
        · exact ⟨(at_.tmod ((N : Int) - (s.size : Int))).toNat, by omega, .inr ⟨by omega, by omega⟩⟩
      obtain ⟨K, hK, hplace⟩ := hplace
      have HC := Lib.hid (clean_law s N K (UInt8.ofNat by_.toNat) (by omega) hN hK)
      have hat : (txt s N)[1 + s.size + K]? = some 0 := by
        unfold txt
        rw [show 1 + s.size + K = (s.size + K) + 1 by omega, List.getElem?_cons_succ, List.getElem?_append_right (by rw [size_data]; omega), size_data, List.getElem?_replicate, if_pos (by omega)]
      have HAT := Lib.hid hat
      clear hat
      generalize txt s N = L at *
      have HLL := Lib.hid hlen
      have hlenI : ((N : Int) + 1) ≤ (L.length : Int) := by omega
      have hKI : (K : Int) + (s.size : Int) < (N : Int) := by omega
      have hKI0 : (0 : Int) ≤ (K : Int) := by omega
      clear hlen
      rcases hroom with ⟨hneg, hrw⟩ | ⟨hpos, hrw⟩
      all_goals rcases hplace with ⟨hneg2, hrw2⟩ | ⟨hpos2, hrw2⟩
      all_goals
        go_enter Try.func5, Try.ntmps5
        go_wp2_with fail
        clear hrw
        refine HT.out.mono ?_
        rintro e w2 ⟨A2, c2, rfl, ho2, hb3⟩
        obtain ⟨g, rfl, hgB, hglt, hcL, hcM⟩ := own_form ho2 (by have := HLL.out; omega)
        have hcell : w2.cell? ⟨g, 1 + s.size + K, none⟩ = some (.int .u8 0) := by
          rw [ho2.cellAt _ (by have := HLL.out; omega), List.getElem?_map, HAT.out]
          rfl
        have hfr : w2.frozen? ⟨g, 1 + s.size + K, none⟩ = false := ho2.frozenAt _
        have hcLI : (L.length : Int) ≤ (c2 : Int) := by omega
        have HO := Lib.hid ho2
        clear ho2
        have hx0 := HX.out
        go_wp2_with fail
        clear hx0 hrw2 hcell hfr
        have ho3 := own_set HO.out (1 + s.size + K) (UInt8.ofNat by_.toNat)
        rw [bv_of by_ hb (by omega)] at ho3
        have hset : (L.set (1 + s.size + K) (UInt8.ofNat by_.toNat)).length = L.length := List.length_set
        have HG := Lib.hid (gtext_yes (some ⟨g, 0, none⟩) (L.set (1 + s.size + K) (UInt8.ofNat by_.toNat)) c2 0 (N : Int) (w2.setCell ⟨g, 1 + s.size + K, none⟩ (.int .u8 by_)) (by rw [hset]; exact Sl.own ho3) (by rw [hset]; exact hcL) hcM (by omega) (by omega) (by omega) (by rw [hset]; have := HLL.out; omega))
        rw [hset, show ((0 : Int).toNat) = 0 from rfl, Int.toNat_natCast] at HG
        clear ho3 hset
        have hbz : Below w.heap.size w (w2.setCell ⟨g, 1 + s.size + K, none⟩ (.int .u8 by_)) := hb3.setCell hgB _
        have hbz0 := hbz.size
        simp at hbz0
        by_cases hy : by_ = 0
        · subst hy
          have hc1 := HC.out.1 rfl
          rw [show UInt8.ofNat (Int.toNat 0) = 0 from rfl] at HG hc1
          rw [hc1.1, hc1.2, str_of] at HG
          clear hc1
          refine HG.out.mono ?_
          rintro e w3 ⟨rfl, rfl⟩
          go_wp2_with (go_at_call 13; refine (awake_any _).mono ?_; rintro e w4 ⟨rfl, hb4⟩)
          go_ret
          exact ⟨rfl, hbz.trans (hb4.mono (by simp; omega))⟩
        · have hy1 : (by_ == 0) = false := by simpa using hy
          have hy2 : UInt8.ofNat by_.toNat ≠ 0 := fun h => by
            have h1 := toNat_ofNat8 by_ hb (by omega)
            rw [h] at h1
            have : (0 : UInt8).toNat = 0 := rfl
            omega
          have hc1 := HC.out.2 hy2
          rw [hc1.1, hc1.2] at HG
          clear hc1 hy2 hy
          refine HG.out.mono ?_
          rintro e w3 ⟨rfl, rfl⟩
          go_wp2_with (go_at_call 13; refine (awake_any _).mono ?_; rintro e w4 ⟨rfl, hb4⟩)
          go_ret
          exact ⟨rfl, hbz.trans (hb4.mono (by simp; omega))⟩
  · have hsnI : (N : Int) < (s.size : Int) := by omega
    have HT := Lib.hid (text_no none 0 0 s (N : Int) w (by omega) (.inr (.inr hsnI)))
    rcases hroom with ⟨hneg, hrw⟩ | ⟨hpos, hrw⟩
    all_goals
      go_enter Try.func5, Try.ntmps5
      go_wp2_with fail
      clear hrw
      refine HT.out.mono ?_
      rintro e w2 ⟨rfl, rfl⟩
      go_wp2_with (go_at_call 13; refine (awake_any w).mono ?_; rintro e w3 ⟨rfl, hb4⟩)
      go_ret
      exact ⟨rfl, hb4⟩
end Go.Proofs.Ytbjfjbndekcboaa.Wi
