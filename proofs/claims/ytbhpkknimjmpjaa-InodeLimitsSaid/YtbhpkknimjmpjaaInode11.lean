/-
  Plain laws of an inode's block: the block of an inode that may be is read as that inode.
-/
import Derived.Test.YtbhpkknimjmpjaaInode8
namespace Go.Proofs.Ytbhpkknimjmpjaa.In
open Go.RowKit Wd Wi
set_option linter.unusedVariables false

theorem toNat_ofNat8 (x : Int) (h0 : 0 ≤ x) (h1 : x < 256) : (UInt8.ofNat x.toNat).toNat = x.toNat := by
  rw [UInt8.toNat_ofNat']; exact Nat.mod_eq_of_lt (by omega)

/-- the number that m lowest bytes are -/
theorem leN_putB (v : Int) (m : Nat) : (leN (putB v m) : Int) = v % 256 ^ m := by
  induction m with
  | zero => simp [putB, leN]
  | succ m ih =>
    have hp : (0 : Int) < 256 ^ m := Int.pow_pos (by decide)
    have hb0 := Int.emod_nonneg (v / 2 ^ (8 * m)) (show (256 : Int) ≠ 0 by decide)
    have hb1 := Int.emod_lt_of_pos (v / 2 ^ (8 * m)) (show (0 : Int) < 256 by decide)
    rw [putB_succ, leN_append, putB_len, Int.natCast_add, Int.natCast_mul, ih]
    simp only [leN, Nat.mul_zero, Nat.add_zero]
    rw [toNat_ofNat8 _ hb0 hb1, Int.toNat_of_nonneg hb0]
    have h256 : (((256 : Nat) ^ m : Nat) : Int) = 256 ^ m := Int.natCast_pow 256 m
    have h2 : (2 : Int) ^ (8 * m) = 256 ^ m := by rw [Int.pow_mul]; rfl
    rw [h256, h2, Int.pow_succ]
    have e1 := Int.emod_add_mul_ediv v (256 ^ m)
    have e2 := Int.emod_add_mul_ediv (v / 256 ^ m) 256
    have hr0 := Int.emod_nonneg v (show (256 : Int) ^ m ≠ 0 by omega)
    have hr1 := Int.emod_lt_of_pos v hp
    have hq0 := Int.emod_nonneg (v / 256 ^ m) (show (256 : Int) ≠ 0 by decide)
    have hq1 := Int.emod_lt_of_pos (v / 256 ^ m) (show (0 : Int) < 256 by decide)
    have hlt : v % 256 ^ m + 256 ^ m * (v / 256 ^ m % 256) < 256 ^ m * 256 := by
      have : 256 ^ m * (v / 256 ^ m % 256) ≤ 256 ^ m * 255 := Int.mul_le_mul_of_nonneg_left (by omega) (by omega)
      omega
    have hge : 0 ≤ v % 256 ^ m + 256 ^ m * (v / 256 ^ m % 256) := by
      have : 0 ≤ 256 ^ m * (v / 256 ^ m % 256) := Int.mul_nonneg (by omega) hq0
      omega
    have hv : v = (v % 256 ^ m + 256 ^ m * (v / 256 ^ m % 256)) + (256 ^ m * 256) * (v / 256 ^ m / 256) := by
      have : 256 ^ m * (v / 256 ^ m) = 256 ^ m * (v / 256 ^ m % 256) + (256 ^ m * 256) * (v / 256 ^ m / 256) := by
        rw [Int.mul_assoc, ← Int.mul_add, e2]
      omega
    conv => rhs; rw [hv]
    rw [Int.add_mul_emod_self_left, Int.emod_eq_of_lt hge hlt]

theorem seg_mid (p x s : List UInt8) (a k : Nat) (ha : a = p.length) (hk : k = x.length) : seg (p ++ x ++ s) a k = x := by
  subst ha; subst hk
  unfold seg
  rw [List.append_assoc, List.drop_left, List.take_left]
theorem get_put (p s : List UInt8) (v : Int) (m a : Nat) (ha : a = p.length) (hv : 0 ≤ v) (hv2 : v < 256 ^ m) : (leN (seg (p ++ putB v m ++ s) a m) : Int) = v := by
  rw [seg_mid p (putB v m) s a m ha (putB_len v m).symm, leN_putB]
  exact Int.emod_eq_of_lt hv hv2
theorem ptrB_split (ps : List Int) (k : Nat) (p : Int) (h : ps[k]? = some p) : ptrB ps = ptrB (ps.take k) ++ putB p 2 ++ ptrB (ps.drop (k + 1)) := by
  have e : ps = ps.take k ++ [p] ++ ps.drop (k + 1) := by
    rw [List.append_assoc, List.singleton_append]
    have hk : k < ps.length := (List.getElem?_eq_some_iff.1 h).1
    have hp : ps[k] = p := (List.getElem?_eq_some_iff.1 h).2
    rw [← hp, ← List.drop_eq_getElem_cons hk, List.take_append_drop]
  calc ptrB ps = ptrB (ps.take k ++ [p] ++ ps.drop (k + 1)) := by rw [← e]
    _ = _ := by simp [ptrB]

theorem dec_blk {xs : List Int} (hl : xs.length = 37) (h : chkL xs = true) : dec (blkL xs) = xs := by
  obtain ⟨k0, s0, l0, o0, n0, ps, rfl, hps⟩ := five hl
  obtain ⟨⟨hk0, hk1⟩, ⟨hs0, hs1⟩, ⟨hl0, hl1⟩, ⟨ho0, ho1⟩, ⟨hn0, hn1⟩, hpb⟩ := chk_bd hps h
  have e0 : (leN (seg (blk k0 s0 l0 o0 n0 ps) 0 1) : Int) = k0 := by
    have := get_put [] (putB s0 2 ++ putB l0 2 ++ putB o0 3 ++ putB n0 3 ++ ptrB ps ++ List.replicate 53 0) k0 1 0 rfl hk0 (by omega)
    simpa [blk, hdrB] using this
  have e1 : (leN (seg (blk k0 s0 l0 o0 n0 ps) 1 2) : Int) = s0 := by
    have := get_put (putB k0 1) (putB l0 2 ++ putB o0 3 ++ putB n0 3 ++ ptrB ps ++ List.replicate 53 0) s0 2 1 (by simp [putB_len]) hs0 (by omega)
    simpa [blk, hdrB] using this
  have e2 : (leN (seg (blk k0 s0 l0 o0 n0 ps) 3 2) : Int) = l0 := by
    have := get_put (putB k0 1 ++ putB s0 2) (putB o0 3 ++ putB n0 3 ++ ptrB ps ++ List.replicate 53 0) l0 2 3 (by simp [putB_len]) hl0 (by omega)
    simpa [blk, hdrB] using this
  have e3 : (leN (seg (blk k0 s0 l0 o0 n0 ps) 5 3) : Int) = o0 := by
    have := get_put (putB k0 1 ++ putB s0 2 ++ putB l0 2) (putB n0 3 ++ ptrB ps ++ List.replicate 53 0) o0 3 5 (by simp [putB_len]) ho0 (by omega)
    simpa [blk, hdrB] using this
  have e4 : (leN (seg (blk k0 s0 l0 o0 n0 ps) 8 3) : Int) = n0 := by
    have := get_put (putB k0 1 ++ putB s0 2 ++ putB l0 2 ++ putB o0 3) (ptrB ps ++ List.replicate 53 0) n0 3 8 (by simp [putB_len]) hn0 (by omega)
    simpa [blk, hdrB] using this
  have ep : decP (blk k0 s0 l0 o0 n0 ps) = ps := by
    apply List.ext_getElem
    · simp [decP, hps]
    · intro k h1 h2
      have hp : ps[k]? = some ps[k] := List.getElem?_eq_getElem h2
      obtain ⟨hb0, hb1⟩ := hpb k _ hp
      have hk : (hdrB k0 s0 l0 o0 n0 ++ ptrB (ps.take k)).length = 11 + 2 * k := by
        rw [List.length_append, hdrB_len, ptrB_len, List.length_take]
        omega
      have := get_put (hdrB k0 s0 l0 o0 n0 ++ ptrB (ps.take k)) (ptrB (ps.drop (k + 1)) ++ List.replicate 53 0) ps[k] 2 (11 + 2 * k) hk.symm hb0 (by omega)
      have e : blk k0 s0 l0 o0 n0 ps = hdrB k0 s0 l0 o0 n0 ++ ptrB (ps.take k) ++ putB ps[k] 2 ++ (ptrB (ps.drop (k + 1)) ++ List.replicate 53 0) := by
        unfold blk
        rw [ptrB_split ps k _ hp]
        simp only [List.append_assoc]
      rw [← e] at this
      simpa [decP] using this
  show dec (blk k0 s0 l0 o0 n0 ps) = _
  unfold dec
  rw [e0, e1, e2, e3, e4, ep]
theorem blk_len {xs : List Int} (hl : xs.length = 37) : (blkL xs).length = 128 := by
  obtain ⟨k0, s0, l0, o0, n0, ps, rfl, hps⟩ := five hl
  show (blk k0 s0 l0 o0 n0 ps).length = 128
  unfold blk
  rw [List.length_append, List.length_append, hdrB_len, ptrB_len, hps, List.length_replicate]
theorem blk_inj {xs ys : List Int} (hx : xs.length = 37) (hy : ys.length = 37) (cx : chkL xs = true) (cy : chkL ys = true) : (blkL xs = blkL ys) ↔ xs = ys := by
  constructor
  · intro h
    rw [← dec_blk hx cx, ← dec_blk hy cy, h]
  · rintro rfl; rfl
theorem blk_isIno {xs : List Int} (hx : xs.length = 37) (cx : chkL xs = true) : isIno (blkL xs) = true := by
  simp [isIno, blk_len hx, dec_blk hx cx, cx]
theorem getV_blk {xs : List Int} (hx : xs.length = 37) (cx : chkL xs = true) : getV (blkL xs) = xs := by
  rw [getV, if_pos (blk_isIno hx cx), dec_blk hx cx]
theorem getV_len (l : List UInt8) : (getV l).length = 37 := by
  unfold getV
  split
  · exact dec_len l
  · exact zIno_len
theorem isIno_chk {l : List UInt8} (h : isIno l = true) : chkL (dec l) = true ∧ blkL (dec l) = l ∧ l.length = 128 := by
  simp [isIno] at h
  exact ⟨h.2.1, h.2.2, h.1⟩
theorem chk_zero : chkL zIno = true := by decide
theorem blk_zero : blkL zIno = List.replicate 128 0 := by decide
theorem isIno_zero : isIno (List.replicate 128 0) = true := by
  rw [← blk_zero]
  exact blk_isIno zIno_len chk_zero
theorem getV_zero : getV (List.replicate 128 0) = zIno := by
  rw [← blk_zero]
  exact getV_blk zIno_len chk_zero
end Go.Proofs.Ytbhpkknimjmpjaa.In
