/-
  The document's maps: truths in a row of the call's own; New, Map, Bytes.
-/
import Derived.Test.YtipdaecihfkonaaBit5
namespace Go.Proofs.Ytipdaecihfkonaa.Bt
open Fl Sp Go.RowKit Wd By
set_option linter.unusedVariables false
theorem infoT : (Try.prog.info? 4).map (fun i => (i.zero, i.size, i.bytes)) = some (some (.bool false), 1, 1) := by kernel_rfl
theorem made_bools (n : Nat) : (madeCells #[Value.bool false] n).toList = (List.replicate n false).map Value.bool := by
  apply List.ext_getElem
  · simp [madeCells]
  · intro j h1 h2
    simp [madeCells, Nat.mod_one]
theorem wpList_make_bools {ops : Array Oper} {Q : Exit → Act → World → Prop} {a : Act} {w : World} {rest : List Oper} {o : Oper} (hg : o.guard = none) (x y : Operand) (ho : o.op = .makeSlice 23 x y) (n : Nat) (hn : n ≤ 16777216)
    (hx : a.eval x = .int .i64 (n : Int)) (hy : a.eval y = .int .i64 (n : Int))
    (hK : ∀ w', w'.ownsRow w.heap.size 4 1 (.slice (some ⟨w.heap.size, 0, none⟩) n n) n ((List.replicate n false).map Value.bool) → Below w.heap.size w w' → w.heap.size < w'.heap.size →
      wpList Try.prog ops Q rest (a.put o.dst (.slice (some ⟨w.heap.size, 0, none⟩) n n)) w') : wpList Try.prog ops Q (o :: rest) a w := by
  obtain ⟨i0, hi, hz0, hz1, hz2⟩ := info_parts infoT
  obtain ⟨w', hr, ho2, hgb⟩ := run_makeSlice_full (P := Try.prog) w w.heap.size 23 4 i0 (.bool false) 1 Try.underlying23 hi hz0 hz1 .i64 .i64 n (by omega) (by rw [hz2]; omega) (by simp only [maxLen]; omega) (Nat.le_refl _)
  have hz : (madeCells (Value.bool false).cells (n * 1)).toList = (List.replicate n false).map Value.bool := by
    rw [Nat.mul_one]
    exact made_bools n
  rw [hz] at ho2
  have hlt : w.heap.size < w'.heap.size := by
    rcases ho2.2 with ⟨h, _⟩ | ⟨g, cap, cur, hv, _, hgg, _⟩
    · cases h
    · injection hv with hA
      injection hA with hA
      injection hA with hA
      subst hA
      exact (Array.getElem?_eq_some_iff.1 hgg).1
  refine wpList_val (by simp [Region.wanted, hg]) _ w' ?_ (hK w' ho2 ((Below.refl _ _).grown hgb (Nat.le_refl _) (fun k hk => by cases hk)) hlt)
  unfold execOp
  simp [ho, hx, hy, hr]
theorem ownB_there {w : World} {base g n c : Nat} {e : TypeId} {L : List Bool} (h : w.ownsRow base e 1 (.slice (some ⟨g, 0, none⟩) n c) n (L.map Value.bool)) (j : Nat) (hj : j < n) :
    w.cell? ⟨g, j, none⟩ = some (.bool (L.getD j false)) ∧ w.frozen? ⟨g, j, none⟩ = false := by
  have hl : L.length = n := by have := h.1; simpa using this
  constructor
  · rw [h.cellAt j (by omega), List.getElem?_map, List.getD_eq_getElem?_getD, List.getElem?_eq_getElem (by omega)]
    rfl
  · exact h.frozenAt j
theorem ownB_set {w : World} {base g n c : Nat} {e : TypeId} {L : List Bool} (h : w.ownsRow base e 1 (.slice (some ⟨g, 0, none⟩) n c) n (L.map Value.bool)) (j : Nat) (y : Bool) :
    (w.setCell ⟨g, j, none⟩ (.bool y)).ownsRow base e 1 (.slice (some ⟨g, 0, none⟩) n c) n ((L.set j y).map Value.bool) := by
  have := (h.stored j (.bool y)).1
  rwa [← List.map_set] at this
/-! ### a list that is written one by one -/
def mS (f : Nat → Bool) (k : Nat) : List Bool := (List.range 1024).map fun i => if i < k then f i else false
theorem mS_len (f : Nat → Bool) (k : Nat) : (mS f k).length = 1024 := by simp [mS]
theorem mS_zero (f : Nat → Bool) : mS f 0 = List.replicate 1024 false := by
  rw [List.eq_replicate_iff]
  refine ⟨mS_len f 0, fun b hb => ?_⟩
  unfold mS at hb
  obtain ⟨i, _, rfl⟩ := List.mem_map.1 hb
  rw [if_neg (by omega)]
theorem mS_set (f : Nat → Bool) (k : Nat) (h : k < 1024) : (mS f k).set k (f k) = mS f (k + 1) := by
  apply List.ext_getElem
  · simp [mS]
  · intro i h1 h2
    by_cases hi : i = k
    · subst hi
      simp [mS]
    · rw [List.getElem_set_ne (fun e => hi e.symm)]
      simp only [mS, List.getElem_map, List.getElem_range]
      by_cases h3 : i < k
      · rw [if_pos h3, if_pos (by omega)]
      · rw [if_neg h3, if_neg (by omega)]
def mapF (f : Nat → Bool) : List Bool := (List.range 1024).map f
theorem mS_full (f : Nat → Bool) : mS f 1024 = mapF f := by
  unfold mS mapF
  apply List.map_congr_left
  intro i hi
  rw [if_pos (List.mem_range.1 hi)]
theorem mapF_len (f : Nat → Bool) : (mapF f).length = 1024 := by simp [mapF]
theorem mapF_at (f : Nat → Bool) {i : Nat} (h : i < 1024) : (mapF f).getD i false = f i := by
  unfold mapF
  rw [List.getD_eq_getElem?_getD, List.getElem?_map, List.getElem?_range h]
  rfl
theorem mapF_congr {f f' : Nat → Bool} (h : ∀ i, i < 1024 → f i = f' i) : mapF f = mapF f' := List.map_congr_left fun i hi => h i (List.mem_range.1 hi)
theorem mapF_set (f : Nat → Bool) {k : Nat} (h : k < 1024) (u : Bool) : (mapF f).set k u = mapF fun i => if i = k then u else f i := by
  apply List.ext_getElem
  · simp [mapF]
  · intro i h1 h2
    by_cases hi : i = k
    · subst hi
      simp [mapF]
    · rw [List.getElem_set_ne (fun e => hi e.symm)]
      simp [mapF, hi]
/-! ### bytes of truths -/
def bS (f : Nat → Bool) : Nat → List UInt8
  | 0 => List.replicate 128 0
  | k + 1 => setB (bS f k) k (f k)
theorem bS_len (f : Nat → Bool) : ∀ k, (bS f k).length = 128
  | 0 => by simp [bS]
  | k + 1 => by unfold bS; rw [setB_len, bS_len f k]
theorem bS_bit (f : Nat → Bool) (m : Nat) : ∀ k, k ≤ 1024 → bitN (bS f k) m = if m < k then f m else false
  | 0, _ => by
    unfold bS bitN
    rw [if_neg (by omega), List.getD_eq_getElem?_getD, List.getElem?_replicate]
    split <;> simp
  | k + 1, hk => by
    unfold bS
    rw [bit_set (bS_len f k) (by omega), bS_bit f m k (by omega)]
    by_cases h : m = k
    · rw [if_pos h, if_pos (by omega), h]
    · rw [if_neg h]
      by_cases h2 : m < k
      · rw [if_pos h2, if_pos (by omega)]
      · rw [if_neg h2, if_neg (by omega)]
theorem bS_new (blocks : Int) : ∀ k, newS blocks k = bS (newU blocks) k
  | 0 => rfl
  | k + 1 => by unfold newS bS; rw [bS_new blocks k]
theorem bS_low (f : Nat → Bool) (k : Nat) (hk : k < 1024) : ((bS f k).getD (k / 8) 0).toNat < 2 ^ (k % 8) := by
  apply Nat.lt_pow_two_of_testBit
  intro i hi
  by_cases h8 : i < 8
  · have := bS_bit f (8 * (k / 8) + i) k (by omega)
    rw [if_neg (by omega)] at this
    unfold bitN at this
    rwa [show (8 * (k / 8) + i) / 8 = k / 8 by omega, show (8 * (k / 8) + i) % 8 = i by omega] at this
  · exact Nat.testBit_lt_two_pow (Nat.lt_of_lt_of_le (UInt8.toNat_lt _) (Nat.pow_le_pow_right (by decide) (by omega : 8 ≤ i)))
theorem low_or : ∀ j, j < 8 → ∀ x, x < 2 ^ j → (x &&& (255 - 2 ^ j)) ||| 2 ^ j = x + 2 ^ j := by decide
theorem low_and : ∀ j, j < 8 → ∀ x, x < 2 ^ j → x &&& (255 - 2 ^ j) = x := by decide
theorem bS_true (f : Nat → Bool) (k : Nat) (hk : k < 1024) (h : f k = true) : bS f (k + 1) = (bS f k).set (k / 8) (UInt8.ofNat (((bS f k).getD (k / 8) 0).toNat + 2 ^ (k % 8))) := by
  show setB (bS f k) k (f k) = _
  unfold setB
  rw [h, if_pos rfl, low_or _ (by omega) _ (bS_low f k hk)]
theorem bS_false (f : Nat → Bool) (k : Nat) (hk : k < 1024) (h : f k = false) : bS f (k + 1) = bS f k := by
  show setB (bS f k) k (f k) = _
  unfold setB
  rw [h, if_neg (by decide), low_and _ (by omega) _ (bS_low f k hk)]
  have hl : k / 8 < (bS f k).length := by rw [bS_len]; omega
  apply List.ext_getElem
  · simp
  · intro i h1 h2
    by_cases hi : i = k / 8
    · subst hi
      rw [List.getElem_set_self, List.getD_eq_getElem?_getD, List.getElem?_eq_getElem hl]
      simp
    · rw [List.getElem_set_ne (fun e => hi e.symm)]
theorem bS_congr {f f' : Nat → Bool} : ∀ k, (∀ i, i < k → f i = f' i) → bS f k = bS f' k
  | 0, _ => rfl
  | k + 1, h => by
    show setB (bS f k) k (f k) = setB (bS f' k) k (f' k)
    rw [bS_congr k (fun i hi => h i (by omega)), h k (by omega)]
/-- two maps with the same bits are the same -/
theorem map_ext {L M : List UInt8} (hl : L.length = 128) (hm : M.length = 128) (h : ∀ n, n < 1024 → bitN L n = bitN M n) : L = M := by
  apply List.ext_getElem (by omega)
  intro i h1 h2
  apply UInt8.toNat_inj.1
  apply Nat.eq_of_testBit_eq
  intro j
  by_cases hj : j < 8
  · have := h (8 * i + j) (by omega)
    unfold bitN at this
    rw [show (8 * i + j) / 8 = i by omega, show (8 * i + j) % 8 = j by omega, List.getD_eq_getElem?_getD, List.getElem?_eq_getElem h1, List.getD_eq_getElem?_getD, List.getElem?_eq_getElem h2] at this
    exact this
  · have e : ∀ x : UInt8, x.toNat.testBit j = false := fun x => Nat.testBit_lt_two_pow (Nat.lt_of_lt_of_le (UInt8.toNat_lt x) (Nat.pow_le_pow_right (by decide) (by omega : 8 ≤ j)))
    rw [e, e]
theorem bS_back {M : List UInt8} (hM : M.length = 128) : bS (bitN M) 1024 = M :=
  map_ext (bS_len _ _) hM fun n hn => by rw [bS_bit _ _ _ (Nat.le_refl _), if_pos hn]
/-! ### Bytes -/
def OwnT (w : World) (l : List Bool) (e : Ending) (w' : World) : Prop :=
  ∃ g, e = .returned (.slice (some ⟨g, 0, none⟩) 1024 1024) ∧ w'.ownsRow w.heap.size 4 1 (.slice (some ⟨g, 0, none⟩) 1024 1024) 1024 (l.map Value.bool) ∧ Below w.heap.size w w'
set_option maxHeartbeats 800000 in
theorem rbytes_any (A : Option Addr) (f : Nat → Bool) (c : Nat) (w : World) (hs : Sl w w.heap.size 1 A 1024 ((mapF f).map Value.bool)) :
    Calls Try.prog 14 #[.slice A 1024 c] w (OwnR w (bS f 1024)) := by
  have HS := Lib.hid hs
  clear hs
  go_enter Try.func14, Try.ntmps14
  go_wp2_with (refine wpList_make_bytes rfl _ _ rfl 128 (by decide) rfl rfl ?_; intro w1 hmk hmb hmlt)
  have HMK := Lib.hid hmk
  have HMB := Lib.hid hmb
  obtain ⟨g, hg⟩ : ∃ g, g = w.heap.size := ⟨_, rfl⟩
  rw [← hg] at HMK ⊢
  have HG := Lib.hid hg
  clear hmk hmb hg hmlt
  go_loopw [4] (fun iv wr => ∃ k : Nat, k ≤ 1024 ∧ iv = .int .i64 (k : Int) ∧ wr.ownsRow w.heap.size 5 1 (.slice (some ⟨g, 0, none⟩) 128 128) 128 ((bS f k).map bv) ∧ Below w.heap.size w wr) (fun i _ => 1024 - (intOf i).toNat)
  case atStart => exact ⟨0, by omega, rfl, by rw [← HG.out]; exact HMK.out, HMB.out⟩
  case round =>
    obtain ⟨k, hk, rfl, hown, hbel⟩ := hrel
    have HO := Lib.hid hown
    have HB := Lib.hid hbel
    clear hown hbel
    by_cases hlt : k < 1024
    · have hltI : (k : Int) < 1024 := by omega
      have hk0 : (0 : Int) ≤ (k : Int) := by omega
      obtain ⟨b, off, rfl, hbb, hcell⟩ := (HS.out.on (Nat.le_refl _) HB.out).at (by omega) (by decide)
      have hck := hcell k (.bool (f k)) (by rw [List.getElem?_map]; unfold mapF; rw [List.getElem?_map, List.getElem?_range hlt]; rfl)
      clear hbb hcell
      cases hf : f k
      · rw [hf] at hck
        have HX := Lib.hid (bS_false f k hlt hf)
        clear hf
        go_wp2_with fail
        go_roundw
        case rel => exact ⟨k + 1, by omega, by go_num, by rw [HX.out]; exact HO.out, HB.out⟩
        case measure => simp [intOf]; omega
      · rw [hf] at hck
        have HX := Lib.hid (bS_true f k hlt hf)
        have hlow := bS_low f k hlt
        obtain ⟨hc, hfz⟩ := own_there HO.out (k / 8) (by omega)
        unfold bv at hc
        have hj : k % 8 < 8 := by omega
        have hp := (pow_lt hj).2
        have hp2 := (pow_lt hj).1
        have hpp : 2 * 2 ^ (k % 8) ≤ 256 := by
          have h : k % 8 = 0 ∨ k % 8 = 1 ∨ k % 8 = 2 ∨ k % 8 = 3 ∨ k % 8 = 4 ∨ k % 8 = 5 ∨ k % 8 = 6 ∨ k % 8 = 7 := by omega
          rcases h with h | h | h | h | h | h | h | h <;> rw [h] <;> decide
        obtain ⟨q, hq⟩ : ∃ q, q = k / 8 := ⟨_, rfl⟩
        obtain ⟨j, hj2⟩ : ∃ j, j = k % 8 := ⟨_, rfl⟩
        have h8 : (k : Int) / 8 = (q : Int) := by omega
        have hm : (k : Int) % 8 = (j : Int) := by omega
        have hm2 : (k : Int).tmod 8 = (j : Int) := by rw [Int.tmod_eq_emod_of_nonneg hk0]; exact hm
        have h82 : (k : Int).tdiv 8 = (q : Int) := by rw [Int.tdiv_eq_ediv_of_nonneg hk0]; exact h8
        rw [← hq] at hc hfz hlow HX
        rw [← hj2] at hlow HX hp hp2 hpp hj
        have hq128 : q < 128 := by omega
        obtain ⟨x, hx⟩ : ∃ x, x = ((bS f k).getD q 0).toNat := ⟨_, rfl⟩
        rw [← hx] at hc hlow HX
        obtain ⟨z, hz⟩ : ∃ z, z = x + 2 ^ j := ⟨_, rfl⟩
        have hzI : (x : Int) + (2 : Int) ^ j % 256 = (z : Int) := by rw [hp]; omega
        rw [← hz] at HX
        have hz256 : z < 256 := by omega
        have hzI2 : (z : Int) < 256 := by omega
        have hz0 : (0 : Int) ≤ (z : Int) := by omega
        have hst := own_set HO.out q (UInt8.ofNat z)
        rw [bv_nat hz256, ← HX.out] at hst
        have HST := Lib.hid hst
        have hq0 : (0 : Int) ≤ (q : Int) := by omega
        have hq1 : (q : Int) < 128 := by omega
        have hj0 : (0 : Int) ≤ (j : Int) := by omega
        have hj8 : (j : Int) < 8 := by omega
        clear hf hq hj2 hx hz hst hp hp2 hpp hlow hk
        go_wp2_with fail
        exact ⟨⟨k + 1, by omega, by go_num, HST.out, (Only.setCell g q wr _).below HB.out (Nat.le_of_eq HG.out.symm)⟩, by simp [intOf]; omega⟩
    · have hge : (1024 : Int) ≤ (k : Int) := by omega
      obtain rfl : k = 1024 := by omega
      go_wp2_with fail
      go_ret
      exact ⟨g, rfl, HO.out, HB.out⟩
/-! ### New -/
theorem newL_bS (blocks : Int) : newL blocks = bS (newU blocks) 1024 := by
  unfold newL
  exact bS_new blocks 1024
set_option maxHeartbeats 800000 in
theorem rnew_any (blocks : Int) (w : World) : Calls Try.prog 10 #[.int .i64 blocks] w (OwnR w (newL blocks)) := by
  have HE := Lib.hid (newL_bS blocks)
  go_enter Try.func10, Try.ntmps10
  go_wp2_with (refine wpList_make_bools rfl _ _ rfl 1024 (by decide) rfl rfl ?_; intro w1 hmk hmb hmlt)
  have HMK := Lib.hid hmk
  have HMB := Lib.hid hmb
  obtain ⟨g, hg⟩ : ∃ g, g = w.heap.size := ⟨_, rfl⟩
  rw [← hg] at HMK ⊢
  have HG := Lib.hid hg
  clear hmk hmb hg hmlt
  go_loopw [4] (fun iv wr => ∃ k : Nat, k ≤ 1024 ∧ iv = .int .i64 (k : Int) ∧ wr.ownsRow w.heap.size 4 1 (.slice (some ⟨g, 0, none⟩) 1024 1024) 1024 ((mS (newU blocks) k).map Value.bool) ∧ Below w.heap.size w wr) (fun i _ => 1024 - (intOf i).toNat)
  case atStart => exact ⟨0, by omega, rfl, by rw [mS_zero, ← HG.out]; exact HMK.out, HMB.out⟩
  case round =>
    obtain ⟨k, hk, rfl, hown, hbel⟩ := hrel
    have HO := Lib.hid hown
    have HB := Lib.hid hbel
    clear hown hbel
    by_cases hlt : k < 1024
    · have hltI : (k : Int) < 1024 := by omega
      have hk0 : (0 : Int) ≤ (k : Int) := by omega
      obtain ⟨hc, hfz⟩ := ownB_there HO.out k hlt
      generalize (mS (newU blocks) k).getD k false = old at *
      have hst := ownB_set HO.out k (newU blocks k)
      rw [mS_set _ _ hlt] at hst
      have HST := Lib.hid hst
      have HU : Hid (newU blocks k = (decide ((k : Int) < 74) || decide (blocks ≤ (k : Int)))) := by
        show _ = _
        unfold newU
        rw [show decide (k < 74) = decide ((k : Int) < 74) from decide_eq_decide.2 (by omega)]
      rw [HU.out] at HST
      clear hst hk
      by_cases h74 : (k : Int) < 74
      · have hd : decide ((k : Int) < 74) = true := decide_eq_true h74
        rw [hd, Bool.true_or] at HST
        clear hd
        go_wp2_with fail
        exact ⟨⟨k + 1, by omega, by go_num, HST.out, (Only.setCell g k wr _).below HB.out (Nat.le_of_eq HG.out.symm)⟩, by simp [intOf]; omega⟩
      · have hd : decide ((k : Int) < 74) = false := decide_eq_false h74
        rw [hd, Bool.false_or] at HST
        clear hd
        go_wp2_with fail
        exact ⟨⟨k + 1, by omega, by go_num, HST.out, (Only.setCell g k wr _).below HB.out (Nat.le_of_eq HG.out.symm)⟩, by simp [intOf]; omega⟩
    · have hge : (1024 : Int) ≤ (k : Int) := by omega
      obtain rfl : k = 1024 := by omega
      have HO2 := HO
      rw [mS_full] at HO2
      have HBY := Lib.hid (rbytes_any (some ⟨g, 0, none⟩) (newU blocks) 1024 wr (Sl.own HO2.out))
      go_wp2_with fail
      refine HBY.out.mono ?_
      rintro e w5 ⟨g5, rfl, ho5, hb5⟩
      have HO5 := Lib.hid ho5
      have HB5 := Lib.hid hb5
      clear ho5 hb5
      go_wp2_with fail
      go_ret
      exact ⟨g5, rfl, by rw [HE.out]; exact HO5.out.mono HB.out.size, HB.out.trans (Below.mono HB5.out HB.out.size)⟩
/-! ### Map -/
theorem rem_one (x j : Nat) : (((x : Int) / 2 ^ j) % 2 == 1) = x.testBit j := by
  have hp : (2 : Int) ^ j = ((2 ^ j : Nat) : Int) := by rw [Int.natCast_pow]; rfl
  rw [hp, ← Int.natCast_ediv, Nat.testBit_eq_decide_div_mod_eq]
  generalize x / 2 ^ j = r
  rw [Bool.eq_iff_iff, beq_iff_eq, decide_eq_true_eq]
  omega
set_option maxHeartbeats 800000 in
theorem rmap_no (A : Option Addr) (n : Nat) (hn : n ≠ 128) (c : Nat) (w : World) (hn2 : n ≤ 140737488355328) : Calls Try.prog 11 #[.slice A n c] w (OwnT w (mapF fun _ => true)) := by
  have hne : ((n : Int) != 128) = true := by rw [bne_iff_ne]; omega
  clear hn
  go_enter Try.func11, Try.ntmps11
  go_wp2_with (refine wpList_make_bools rfl _ _ rfl 1024 (by decide) rfl rfl ?_; intro w1 hmk hmb hmlt)
  have HMK := Lib.hid hmk
  have HMB := Lib.hid hmb
  obtain ⟨g, hg⟩ : ∃ g, g = w.heap.size := ⟨_, rfl⟩
  rw [← hg] at HMK ⊢
  have HG := Lib.hid hg
  clear hmk hmb hg hmlt
  go_loopw [4] (fun iv wr => ∃ k : Nat, k ≤ 1024 ∧ iv = .int .i64 (k : Int) ∧ wr.ownsRow w.heap.size 4 1 (.slice (some ⟨g, 0, none⟩) 1024 1024) 1024 ((mS (fun _ => true) k).map Value.bool) ∧ Below w.heap.size w wr) (fun i _ => 1024 - (intOf i).toNat)
  case atStart => exact ⟨0, by omega, rfl, by rw [mS_zero, ← HG.out]; exact HMK.out, HMB.out⟩
  case round =>
    obtain ⟨k, hk, rfl, hown, hbel⟩ := hrel
    have HO := Lib.hid hown
    have HB := Lib.hid hbel
    clear hown hbel
    by_cases hlt : k < 1024
    · have hltI : (k : Int) < 1024 := by omega
      have hk0 : (0 : Int) ≤ (k : Int) := by omega
      obtain ⟨hc, hfz⟩ := ownB_there HO.out k hlt
      generalize (mS (fun _ => true) k).getD k false = old at *
      have hst := ownB_set HO.out k true
      rw [mS_set _ _ hlt] at hst
      have HST := Lib.hid hst
      clear hst hk
      go_wp2_with fail
      exact ⟨⟨k + 1, by omega, by go_num, HST.out, (Only.setCell g k wr _).below HB.out (Nat.le_of_eq HG.out.symm)⟩, by simp [intOf]; omega⟩
    · have hge : (1024 : Int) ≤ (k : Int) := by omega
      obtain rfl : k = 1024 := by omega
      go_wp2_with fail
      go_ret
      exact ⟨g, rfl, by rw [← mS_full]; exact HO.out, HB.out⟩
set_option maxHeartbeats 800000 in
theorem rmap_yes (A : Option Addr) (L : List UInt8) (hl : L.length = 128) (c : Nat) (w : World) (hs : Sl w w.heap.size 1 A 128 (L.map bv)) : Calls Try.prog 11 #[.slice A 128 c] w (OwnT w (mapF (bitN L))) := by
  have HS := Lib.hid hs
  have HL := Lib.hid hl
  clear hs hl
  go_enter Try.func11, Try.ntmps11
  go_wp2_with (refine wpList_make_bools rfl _ _ rfl 1024 (by decide) rfl rfl ?_; intro w1 hmk hmb hmlt)
  have HMK := Lib.hid hmk
  have HMB := Lib.hid hmb
  obtain ⟨g, hg⟩ : ∃ g, g = w.heap.size := ⟨_, rfl⟩
  rw [← hg] at HMK ⊢
  have HG := Lib.hid hg
  clear hmk hmb hg hmlt
  go_loopw [4] (fun iv wr => ∃ k : Nat, k ≤ 1024 ∧ iv = .int .i64 (k : Int) ∧ wr.ownsRow w.heap.size 4 1 (.slice (some ⟨g, 0, none⟩) 1024 1024) 1024 ((mS (bitN L) k).map Value.bool) ∧ Below w.heap.size w wr) (fun i _ => 1024 - (intOf i).toNat)
  case atStart => exact ⟨0, by omega, rfl, by rw [mS_zero, ← HG.out]; exact HMK.out, HMB.out⟩
  case round =>
    obtain ⟨k, hk, rfl, hown, hbel⟩ := hrel
    have HO := Lib.hid hown
    have HB := Lib.hid hbel
    clear hown hbel
    by_cases hlt : k < 1024
    · have hltI : (k : Int) < 1024 := by omega
      have hk0 : (0 : Int) ≤ (k : Int) := by omega
      obtain ⟨hc, hfz⟩ := ownB_there HO.out k hlt
      generalize (mS (bitN L) k).getD k false = old at *
      have hst := ownB_set HO.out k (bitN L k)
      rw [mS_set _ _ hlt] at hst
      have hb : bitN L k = (L.getD (k / 8) 0).toNat.testBit (k % 8) := rfl
      have hll := HL.out
      obtain ⟨b, off, rfl, hbb, hcell⟩ := (HS.out.on (Nat.le_refl _) HB.out).at (by omega) (by decide)
      have hck := hcell (k / 8) _ (bv_at L (k / 8) (by omega))
      unfold bv at hck
      have hck2 : L[k / 8] = L.getD (k / 8) 0 := by rw [List.getD_eq_getElem?_getD, List.getElem?_eq_getElem (by omega)]; rfl
      rw [hck2] at hck
      have hx8 : (L.getD (k / 8) 0).toNat < 256 := UInt8.toNat_lt _
      generalize (L.getD (k / 8) 0).toNat = x at *
      rw [hb, ← rem_one] at hst
      have HST := Lib.hid hst
      obtain ⟨q, hq⟩ : ∃ q, q = k / 8 := ⟨_, rfl⟩
      obtain ⟨j, hj2⟩ : ∃ j, j = k % 8 := ⟨_, rfl⟩
      have h8 : (k : Int) / 8 = (q : Int) := by omega
      have hm : (k : Int) % 8 = (j : Int) := by omega
      rw [← hq] at hck
      rw [← hj2] at HST
      have hq0 : (0 : Int) ≤ (q : Int) := by omega
      have hq1 : (q : Int) < 128 := by omega
      have hj0 : (0 : Int) ≤ (j : Int) := by omega
      have hj8 : (j : Int) < 8 := by omega
      have hq128 : q < 128 := by omega
      clear hst hk hb hll hbb hcell hck2 hq hj2
      go_wp2_with fail
      exact ⟨⟨k + 1, by omega, by go_num, HST.out, (Only.setCell g k wr _).below HB.out (Nat.le_of_eq HG.out.symm)⟩, by simp [intOf]; omega⟩
    · have hge : (1024 : Int) ≤ (k : Int) := by omega
      obtain rfl : k = 1024 := by omega
      go_wp2_with fail
      go_ret
      exact ⟨g, rfl, by rw [← mS_full]; exact HO.out, HB.out⟩
theorem rmap_any (A : Option Addr) (L : List UInt8) (c : Nat) (w : World) (hs : Sl w w.heap.size 1 A L.length (L.map bv)) (hk : L.length ≤ 140737488355328) : Calls Try.prog 11 #[.slice A L.length c] w (OwnT w (mapF fun i => usedB L (i : Int))) := by
  by_cases h : L.length = 128
  · rw [show (mapF fun i => usedB L (i : Int)) = mapF (bitN L) from mapF_congr fun i hi => used_bit h hi, h]
    exact rmap_yes A L h c w (by rw [h] at hs; exact hs)
  · rw [show (mapF fun i => usedB L (i : Int)) = mapF fun _ => true from mapF_congr fun i hi => by unfold usedB; simp [h]]
    exact rmap_no A _ h c w hk
end Go.Proofs.Ytipdaecihfkonaa.Bt
