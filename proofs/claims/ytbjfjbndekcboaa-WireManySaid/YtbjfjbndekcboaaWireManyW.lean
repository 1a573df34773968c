/-
  'WireMany' walked: numbers that are put one behind the other are read one behind the other.
-/
import Derived.Test.YtbjfjbndekcboaaWire7
import Derived.Test.YtbjfjbndekcboaaWireLaw
namespace Go.Proofs.Ytbjfjbndekcboaa.Wi
open Go.RowKit Wd
set_option linter.unusedVariables false
attribute [local go_sem] str_toList str_append str_size

def cat (K : Nat) (zs : List Int) : List UInt8 := zs.flatMap fun z => putB z K
theorem cat_len (K : Nat) (zs : List Int) : (cat K zs).length = K * zs.length := by
  unfold cat
  induction zs with
  | nil => simp
  | cons z zs ih => rw [List.flatMap_cons, List.length_append, ih, putB_len, List.length_cons, Nat.mul_succ, Nat.add_comm]
theorem cat_append (K : Nat) (a b : List Int) : cat K (a ++ b) = cat K a ++ cat K b := by simp [cat]
theorem cat_snoc (K : Nat) (zs : List Int) (t : Nat) (z : Int) (h : zs[t]? = some z) : cat K (zs.take (t + 1)) = cat K (zs.take t) ++ putB z K := by
  rw [List.take_add_one, h, cat_append]
  simp [cat]
theorem cat_seg (K : Nat) (zs : List Int) (t : Nat) (z : Int) (h : zs[t]? = some z) : seg (cat K zs) (K * t) K = putB z K := by
  have ht : t < zs.length := (List.getElem?_eq_some_iff.1 h).1
  have e : cat K zs = cat K (zs.take t) ++ (putB z K ++ cat K (zs.drop (t + 1))) := by
    rw [← List.append_assoc, ← cat_snoc K zs t z h, ← cat_append, List.take_append_drop]
  have hl : (cat K (zs.take t)).length = K * t := by rw [cat_len, List.length_take, Nat.min_eq_left (by omega)]
  unfold seg
  rw [e, ← hl, List.drop_left, List.take_append_of_le_length (by rw [putB_len]; omega), List.take_of_length_le (by rw [putB_len]; omega)]

theorem mod_bd (z : Int) (K : Nat) (hK : K ≤ 7) : 0 ≤ z % 256 ^ K := Int.emod_nonneg _ (Int.ne_of_gt (Int.pow_pos (by decide)))
theorem mul_bd (K t M : Nat) (hK : K ≤ 7) (ht : t ≤ M) (hM : M ≤ 200) : (0 : Int) ≤ (K : Int) * (t : Int) ∧ (K : Int) * (t : Int) ≤ 1400 ∧ (K : Int) * (t : Int) = ((K * t : Nat) : Int) ∧ K * t ≤ K * M ∧ K * M ≤ 1400 := by
  have h1 : K * t ≤ 7 * 200 := Nat.mul_le_mul hK (by omega)
  have h2 : K * t ≤ K * M := Nat.mul_le_mul_left _ ht
  have h3 : K * M ≤ 7 * 200 := Nat.mul_le_mul hK hM
  rw [← Int.natCast_mul]
  omega

set_option maxRecDepth 20000 in
set_option maxHeartbeats 1600000 in
theorem wireMany_walk (A : Option Addr) (zs : List Int) (c : Nat) (n : Int) (w : World) (hs : Sl w w.heap.size 1 A zs.length (zs.map (Value.int .i64))) (hc : zs.length ≤ c) (hc2 : c ≤ 17592186043904)
    (hz : ∀ z ∈ zs, -9223372036854775808 ≤ z ∧ z ≤ 9223372036854775807) (hn : -9223372036854775808 ≤ n) (hn2 : n ≤ 9223372036854775807) :
    Calls Try.prog 4 #[.slice A zs.length c, .int .i64 n] w fun e w' => e = .returned (.bool true) ∧ Below w.heap.size w w' := by
  obtain ⟨i0, hi, hz0, hz1, hz2⟩ := info_parts (show (Try.prog.info? 3).map (fun i => (i.zero, i.size, i.bytes)) = some (some (.int .i64 0), 1, 8) by kernel_rfl)
  have hm1 := Int.tmod_lt_of_pos n (show 0 < (7 : Int) by omega)
  have hm2 := Int.lt_tmod_of_pos n (show 0 < (7 : Int) by omega)
  have hroom : ∃ p K : Nat, K ≤ 7 ∧ (p : Int) + 1 = (K : Int) ∧ ((n.tmod 7 < 0 ∧ n.tmod 7 + 7 = (p : Int)) ∨ (0 ≤ n.tmod 7 ∧ n.tmod 7 = (p : Int))) := by
    by_cases h : n.tmod 7 < 0
    · exact ⟨(n.tmod 7 + 7).toNat, (n.tmod 7 + 7).toNat + 1, by omega, by omega, .inl ⟨h, by omega⟩⟩
    · exact ⟨(n.tmod 7).toNat, (n.tmod 7).toNat + 1, by omega, by omega, .inr ⟨by omega, by omega⟩⟩
  obtain ⟨p, K, hK, hpK, hroom⟩ := hroom
  have hK1 : 1 ≤ K := by omega
  have hzH := Lib.hid hz
  have hsH := Lib.hid hs
  clear hz hs
  by_cases hlen : zs.length ≤ 200
  case' pos =>
    have hlenI : (zs.length : Int) ≤ 200 := by omega
    generalize zs = zs1 at *
    generalize A = A1 at *
    rcases hroom with ⟨hneg, hrw⟩ | ⟨hpos, hrw⟩
    all_goals
      go_enter Try.func4, Try.ntmps4
      go_wp2_with fail
      clear hrw hpK
  case' neg =>
    have hlenI : 200 < (zs.length : Int) := by omega
    obtain ⟨zs1, hz1⟩ : ∃ zs1, zs1 = zs.take 200 := ⟨_, rfl⟩
    have hl1 : zs1.length = 200 := by rw [hz1, List.length_take]; omega
    have hcells : List.take (zs1.length * 1) (List.drop (0 * 1) (zs.map (Value.int .i64))) = zs1.map (Value.int .i64) := by
      rw [hl1, hz1, List.map_take]
      simp
    have hl2 : (zs1.length : Int) ≤ 200 := by omega
    have hl3 : 200 ≤ (zs1.length : Int) := by omega
    have hzH1 : Hid (∀ z ∈ zs1, -9223372036854775808 ≤ z ∧ z ≤ 9223372036854775807) := fun z hz => hzH.out z (by rw [hz1] at hz; exact List.mem_of_mem_take hz)
    clear hzH hz1 hl1
    have hzH := hzH1
    have HC := Lib.hid hcells
    clear hcells hzH1
    rcases hroom with ⟨hneg, hrw⟩ | ⟨hpos, hrw⟩
    all_goals
      go_enter Try.func4, Try.ntmps4
      go_wp2_with ((with_reducible show wpList _ _ _ (⟨some 25, _, _, _, _, _⟩ :: _) _ _); refine wpList_slice_sl rfl 33 _ _ _ _ rfl 3 i0 1 Try.underlying33 hi hz1 _ _ _ rfl 0 zs1.length c (.inl ⟨rfl, rfl⟩) (.inr ⟨_, _, rfl, by omega⟩) (.inl ⟨rfl, by omega⟩) (by omega) (by omega) (by omega) hsH.out ?_; intro A1 hs1; clear hsH; have hsH : Hid (Sl w w.heap.size 1 A1 zs1.length (zs1.map (Value.int .i64))) := HC.out ▸ hs1; clear hs1)
      clear hrw hpK
  all_goals
    have hlen2 : zs1.length ≤ 200 := by omega
    clear hlen
    go_loopw [6, 7] (fun b i wr => ∃ (t : Nat) (A' : Option Addr) (c' : Nat), t ≤ zs1.length ∧ i = .int .i64 (t : Int) ∧ b = .slice A' (cat K (zs1.take t)).length c' ∧ (cat K (zs1.take t)).length ≤ c' ∧ c' ≤ maxLen ∧
        Sl wr wr.heap.size 1 A' (cat K (zs1.take t)).length ((cat K (zs1.take t)).map bv) ∧ Below w.heap.size w wr)
      (fun _ i _ => zs1.length - (intOf i).toNat)
    case atStart => exact ⟨0, none, 0, by omega, rfl, rfl, by simp [cat], by simp, Sl.nil _, Below.refl _ _⟩
    case round =>
      obtain ⟨t, A', c', ht, rfl, rfl, hlc, hcm, hsl, hbel⟩ := hrel
      have hcl := cat_len K (zs1.take t)
      rw [List.length_take, Nat.min_eq_left ht] at hcl
      have hbd := mul_bd K t zs1.length hK ht hlen2
      have HCL := Lib.hid hcl
      have HSL := Lib.hid hsl
      clear hcl hsl
      by_cases hlt : t < zs1.length
      · have htI : (t : Int) < (zs1.length : Int) := by omega
        obtain ⟨b, off, hA1, hbB, hcell⟩ := (hsH.out.below hbel).at (by omega) (by omega)
        subst hA1
        have hcell1 := hcell t _ (by rw [List.getElem?_map, List.getElem?_eq_getElem hlt]; rfl)
        have hzb := hzH.out zs1[t] (List.getElem_mem hlt)
        have HSN := Lib.hid (cat_snoc K zs1 t zs1[t] (List.getElem?_eq_getElem hlt))
        have HPut := Lib.hid (put_any A' (cat K (zs1.take t)) c' zs1[t] (K : Int) wr HSL.out hlc (by have := HCL.out; omega) hzb.1 hzb.2 (by omega) (by omega))
        rw [show (min (K : Int) 8).toNat = K by omega, ← HSN.out] at HPut
        generalize zs1[t] = z at *
        have hbs := hbel.size
        clear hcell hbd
        go_wp2_with fail
        refine HPut.out.mono ?_
        rintro e w3 ⟨A3, c3, rfl, hs3, hlc3, hcm3, hb3⟩
        have HS3 := Lib.hid hs3
        clear hs3
        go_wp2_with fail
        go_roundw
        case rel => exact ⟨t + 1, A3, c3, by omega, by go_num, rfl, hlc3, hcm3, HS3.out, hbel.trans (hb3.mono hbs)⟩
        case measure => simp [intOf]; omega
      · have htm : t = zs1.length := by omega
        have hL : cat K (zs1.take t) = cat K zs1 := by rw [htm, List.take_length]
        have htI : (zs1.length : Int) ≤ (t : Int) := by omega
        rw [hL] at HSL HCL hlc
        rw [hL]
        rw [htm] at HCL
        clear hL htm
        have HSeg : Hid (∀ t z, zs1[t]? = some z → seg (cat K zs1) (K * t) K = putB z K) := fun t z h => cat_seg K zs1 t z h
        generalize cat K zs1 = L at *
        have hne : ((L.length : Int) != (K : Int) * (zs1.length : Int)) = false := by rw [HCL.out, Int.natCast_mul]; simp
        have hbM := mul_bd K zs1.length zs1.length hK (Nat.le_refl _) hlen2
        have hM0 := hbM.1
        have hM1 := hbM.2.1
        have hLI : (L.length : Int) ≤ 1400 := by have := HCL.out; omega
        clear hbM hbd
        go_wp2_with fail
        clear hM0 hM1 hne
        go_loopw [8] (fun i wr2 => ∃ t2 : Nat, t2 ≤ zs1.length ∧ i = .int .i64 (t2 : Int) ∧ wr = wr2) (fun i _ => zs1.length - (intOf i).toNat)
        case atStart => exact ⟨0, by omega, rfl, rfl⟩
        case round =>
          obtain ⟨t2, ht2, rfl, rfl⟩ := hrel
          by_cases hlt2 : t2 < zs1.length
          · have ht2I : (t2 : Int) < (zs1.length : Int) := by omega
            obtain ⟨b, off, hA1, hbB, hcell⟩ := (hsH.out.below hbel).at (by omega) (by omega)
            subst hA1
            have hcell1 := hcell t2 _ (by rw [List.getElem?_map, List.getElem?_eq_getElem hlt2]; rfl)
            have hsg := HSeg.out t2 zs1[t2] (List.getElem?_eq_getElem hlt2)
            generalize zs1[t2] = z at *
            have hb1 := mul_bd K t2 zs1.length hK ht2 hlen2
            have hb2 := mul_bd K (t2 + 1) zs1.length hK (by omega) hlen2
            rw [Nat.mul_succ] at hb2
            have hx0 := hb1.1
            have hx1 := hb1.2.1
            have hx2 : (K : Int) * (t2 : Int) + (K : Int) ≤ (L.length : Int) := by have := HCL.out; omega
            have hG := get_yes A' L c' ((K : Int) * (t2 : Int)) (K : Int) wr HSL.out hlc hcm hx0 (by omega) (by omega) hx2
            rw [show ((K : Int) * (t2 : Int)).toNat = K * t2 by rw [← Int.natCast_mul, Int.toNat_natCast], Int.toNat_natCast, hsg, leN_putB] at hG
            have hV0 := mod_bd z K hK
            have hVm : (z % 256 ^ K != bits BinOp.and IntKind.i64 z (wrap64 (wrap64 (2 ^ (8 * K)) - 1))) = false := by rw [mask_form z K hK]; simp
            generalize z % 256 ^ K = V at *
            have HG := Lib.hid hG
            clear hG hsg hb1 hb2 hcell
            go_wp2_with fail
            refine HG.out.mono ?_
            rintro e w3 ⟨rfl, rfl⟩
            go_wp2_with fail
            go_roundw
            case rel => exact ⟨t2 + 1, by omega, by go_num, by trivial⟩
            case measure => simp [intOf]; omega
          · have ht2I : (zs1.length : Int) ≤ (t2 : Int) := by omega
            go_wp2_with fail
            refine (get_no A' L.length c' ((L.length : Int) - (K : Int) + 1) (K : Int) wr (by omega) (by unfold getBad; omega) (by omega) (by omega)).mono ?_
            rintro e w3 ⟨rfl, rfl⟩
            go_wp2_with (go_at_call 13; refine (awake_any _).mono ?_; rintro e w4 ⟨rfl, hb4⟩)
            go_ret
            exact ⟨rfl, hbel.trans (hb4.mono hbel.size)⟩
end Go.Proofs.Ytbjfjbndekcboaa.Wi
