/-
  'InodeTurned' walked: an inode's block in which a byte is turned is another inode's, or none.
-/
import Derived.Test.YtbhpkknimjmpjaaInode12
import Derived.Test.YtbhpkknimjmpjaaRowRely
namespace Go.Proofs.Ytbhpkknimjmpjaa.In
open Go.RowKit Wd Wi
set_option linter.unusedVariables false
attribute [local go_sem] str_toList str_append str_size

theorem xor_turn (x b : Int) (hx0 : 0 ≤ x) (hx1 : x < 256) (hb0 : 0 < b) (hb1 : b < 256) : 0 ≤ bits .xor .u8 x b ∧ bits .xor .u8 x b < 256 ∧ bits .xor .u8 x b ≠ x := by
  have e : ∀ n : Int, 0 ≤ n → n < 256 → (BitVec.ofInt 8 n).toNat = n.toNat := fun n h0 h1 => by
    obtain ⟨n, rfl⟩ := Int.eq_ofNat_of_zero_le h0
    rw [BitVec.ofInt_natCast, BitVec.toNat_ofNat]; exact Nat.mod_eq_of_lt (by omega)
  have hb : bits .xor .u8 x b = ((BitVec.ofInt 8 x ^^^ BitVec.ofInt 8 b).toNat : Int) := by
    show IntKind.u8.wrap ((BitVec.ofInt 8 x ^^^ BitVec.ofInt 8 b).toNat : Int) = _
    have := (BitVec.ofInt 8 x ^^^ BitVec.ofInt 8 b).isLt
    generalize (BitVec.ofInt 8 x ^^^ BitVec.ofInt 8 b).toNat = n at *
    simp [IntKind.wrap, IntKind.bits, IntKind.signed]
    omega
  have hlt := (BitVec.ofInt 8 x ^^^ BitVec.ofInt 8 b).isLt
  rw [hb]
  refine ⟨by omega, by omega, fun h => ?_⟩
  have h2 : (BitVec.ofInt 8 x ^^^ BitVec.ofInt 8 b) = BitVec.ofInt 8 x := by
    apply BitVec.eq_of_toNat_eq
    rw [e x hx0 hx1]
    omega
  have h3 : BitVec.ofInt 8 b = 0#8 := by
    have := congrArg (BitVec.ofInt 8 x ^^^ ·) h2
    simpa [← BitVec.xor_assoc] using this
  have h4 := e b (by omega) hb1
  rw [h3] at h4
  simp at h4
  omega
theorem own_fz {w : World} {base g n c size : Nat} {e : TypeId} {xs : List Value} (h : w.ownsRow base e size (.slice (some ⟨g, 0, none⟩) n c) n xs) (i : Nat) : w.frozen? ⟨g, i, none⟩ = false := by
  rcases h.2 with ⟨h, _⟩ | ⟨g', cap, cur, hv, _, hg, _⟩
  · cases h
  · injection hv with hA
    injection hA with hA
    injection hA with hA
    subst hA
    simp [World.frozen?, hg]

set_option maxRecDepth 100000 in
set_option maxHeartbeats 800000 in
theorem inodeTurned_walk (xs : List Int) (a b : Int) (w : World) (hx : xs.length = 37) (ha : -9223372036854775808 ≤ a) (ha2 : a ≤ 9223372036854775807) (hb0 : 0 ≤ b) (hb1 : b ≤ 255) :
    Calls Try.prog 5 #[.agg (ints xs), .int .i64 a, .int .u8 b] w fun e w' => e = .returned (.bool true) ∧ Below w.heap.size w w' := by
  have HX := Lib.hid hx
  cases cx : chkL xs
  · have HP := Lib.hid (fun w' => iputL_no hx cx w')
    clear hx cx
    go_enter Try.func5, Try.ntmps5
    go_wp2_with (first
      | ((with_reducible show wpList _ _ _ (⟨some 3, _, _, _, _, _⟩ :: _) _ _); refine wpList_box_ino rfl _ rfl HX.out rfl ?_; intro w1 hr1 hk1 hlt1)
      | ((with_reducible show wpList _ _ _ (⟨some 12, _, _, _, _, _⟩ :: _) _ _); refine wpList_load_ino rfl _ rfl hr1 HX.out rfl ?_)
      | (go_at_call 12; refine (HP.out _).mono ?_; rintro e w3 ⟨rfl, hk3⟩)
      | (go_at_call 11; refine (awake_any _).mono ?_; rintro e w7 ⟨rfl, hk7⟩))
    go_ret
    have k3 := hk1.trans (hk3.mono hk1.size)
    exact ⟨rfl, k3.trans (hk7.mono k3.size)⟩
  have hml := blk_len hx
  have hback := dec_blk hx cx
  have HP := Lib.hid (fun w' => iputL_own hx cx w')
  by_cases hb : b = 0
  · subst hb
    clear hx cx hml hback
    generalize blkL xs = M at *
    go_enter Try.func5, Try.ntmps5
    go_wp2_with (first
      | ((with_reducible show wpList _ _ _ (⟨some 3, _, _, _, _, _⟩ :: _) _ _); refine wpList_box_ino rfl _ rfl HX.out rfl ?_; intro w1 hr1 hk1 hlt1)
      | ((with_reducible show wpList _ _ _ (⟨some 12, _, _, _, _, _⟩ :: _) _ _); refine wpList_load_ino rfl _ rfl hr1 HX.out rfl ?_)
      | (go_at_call 12; refine (HP.out _).mono ?_; rintro e w3 ⟨A1, c1, rfl, _, hk3⟩)
      | (go_at_call 11; refine (awake_any _).mono ?_; rintro e w7 ⟨rfl, hk7⟩))
    go_ret
    have k3 := hk1.trans (hk3.mono hk1.size)
    exact ⟨rfl, k3.trans (hk7.mono k3.size)⟩
  obtain ⟨hp0, hp1⟩ := place_bd a 128 (by decide)
  have hplace := fun w' => place_any a 128 w' (by decide) (by decide) ha ha2
  generalize placeZ a 128 = pz at *
  obtain ⟨p, rfl⟩ := Int.eq_ofNat_of_zero_le hp0
  have hpm : p < (blkL xs).length := by rw [hml]; omega
  obtain ⟨x, hxx⟩ : ∃ x : Int, x = (((blkL xs)[p].toNat : Nat) : Int) := ⟨_, rfl⟩
  have hx0 : 0 ≤ x := by omega
  have hx1 : x < 256 := by have := UInt8.toNat_lt (blkL xs)[p]; omega
  obtain ⟨hz0, hz1, hzn⟩ := xor_turn x b hx0 hx1 (by omega) (by omega)
  obtain ⟨y, hy⟩ : ∃ y : UInt8, y = UInt8.ofNat (bits .xor .u8 x b).toNat := ⟨_, rfl⟩
  have hby : bv y = .int .u8 (bits .xor .u8 x b) := by rw [hy]; exact bv_of _ hz0 hz1
  have hyn : (blkL xs)[p] ≠ y := by
    intro e
    have h2 : bv y = .int .u8 x := by rw [← e, hxx]; rfl
    rw [hby] at h2
    injection h2 with _ h2
    exact hzn h2
  have hMn : blkL xs ≠ (blkL xs).set p y := by
    intro e
    have h2 : (blkL xs)[p]? = ((blkL xs).set p y)[p]? := by rw [← e]
    rw [List.getElem?_set_self hpm, List.getElem?_eq_getElem hpm] at h2
    exact hyn (Option.some.inj h2)
  have hcellM : ((blkL xs).map bv)[p]? = some (.int .u8 x) := by rw [bv_at _ p hpm, hxx]; rfl
  have hother : isIno ((blkL xs).set p y) = true → (dec ((blkL xs).set p y) == xs) = false := by
    intro hi
    rw [beq_eq_false_iff_ne]
    intro e
    obtain ⟨_, h2, _⟩ := isIno_chk hi
    rw [e] at h2
    exact hMn h2
  clear hback hx cx hyn hMn hy hzn hxx
  generalize blkL xs = M at *
  obtain ⟨N, hN⟩ : ∃ N, N = M.set p y := ⟨_, rfl⟩
  have hNl : N.length = M.length := by rw [hN, List.length_set]
  rw [← hN] at hother
  have hget : ∀ (g c : Nat) (W : World), Sl W W.heap.size 1 (some ⟨g, 0, none⟩) N.length (N.map bv) → M.length ≤ c → c ≤ maxLen → Calls Try.prog 9 #[.slice (some ⟨g, 0, none⟩) M.length c] W (GetR W N) := by
    intro g c W hs h1 h2
    rw [← hNl]
    exact iget_any _ N c W (by rw [hNl, hml]; decide) hs (by rw [hNl]; exact h1) h2
  have HGET := Lib.hid hget
  have HPL := Lib.hid hplace
  have HML := Lib.hid hml
  have HN := Lib.hid hN
  have HNL := Lib.hid hNl
  have HBY := Lib.hid hby
  have HCM := Lib.hid hcellM
  have HOT := Lib.hid hother
  have hpI : (p : Int) < (M.length : Int) := by omega
  have hb2 : (b == 0) = false := by simpa using hb
  clear hget hplace hml hN hNl hby hcellM hother hp0 hp1 hb
  go_enter Try.func5, Try.ntmps5
  go_wp2_with (first
    | ((with_reducible show wpList _ _ _ (⟨some 3, _, _, _, _, _⟩ :: _) _ _); refine wpList_box_ino rfl _ rfl HX.out rfl ?_; intro w1 hr1 hk1 hlt1)
    | ((with_reducible show wpList _ _ _ (⟨some 12, _, _, _, _, _⟩ :: _) _ _); refine wpList_load_ino rfl _ rfl hr1 HX.out rfl ?_)
    | (go_at_call 12; refine (HP.out _).mono ?_; rintro e w3 ⟨A1, c1, rfl, ho, hk3⟩))
  obtain ⟨g, rfl, hg0, hg1, hgc, hgm⟩ := own_form ho (by rw [HML.out]; decide)
  have hcell : w3.cell? ⟨g, p, none⟩ = some (.int .u8 x) := by
    obtain ⟨ad, hA, _, hcc⟩ := (Sl.own ho).2 (by rw [HML.out]; decide)
    injection hA with hA
    subst hA
    have := hcc p _ HCM.out
    rwa [Addr.add_lit, Nat.zero_add] at this
  have hfz := own_fz ho p
  have HO := Lib.hid ho
  have HK3 := Lib.hid hk3
  have HG := Lib.hid (And.intro hg0 (And.intro hg1 (And.intro hgc hgm)))
  clear ho hk3 hg0 hg1 hgc hgm
  refine (HPL.out _).mono ?_
  rintro e w4 ⟨rfl, rfl⟩
  go_wp2_with fail
  have ho5 := own_set HO.out p y
  rw [← HN.out, HBY.out] at ho5
  have hs5 : Sl (w3.setCell ⟨g, p, none⟩ (.int .u8 (bits .xor .u8 x b))) (w3.setCell ⟨g, p, none⟩ (.int .u8 (bits .xor .u8 x b))).heap.size 1 (some ⟨g, 0, none⟩) N.length (N.map bv) := by
    rw [HNL.out]
    exact Sl.own ho5
  have hk5 : Below w1.heap.size w1 (w3.setCell ⟨g, p, none⟩ (.int .u8 (bits .xor .u8 x b))) := HK3.out.setCell HG.out.1 _
  clear ho5 hcell hfz
  generalize w3.setCell ⟨g, p, none⟩ (.int .u8 (bits .xor .u8 x b)) = W at *
  refine (HGET.out g c1 W hs5 HG.out.2.2.1 HG.out.2.2.2).mono ?_
  cases hi : isIno N
  · rintro e w6 ⟨rfl, hk6⟩
    have hv : getV N = zIno := by simp [getV, hi]
    rw [hv, hi]
    clear hi hv hs5
    go_wp2_with (first
      | ((with_reducible show wpList _ _ _ (⟨some 9, _, _, _, _, _⟩ :: _) _ _); refine wpList_alloc_ino rfl rfl ?_; intro w7 hr7 hk7 hlt7)
      | ((with_reducible show wpList _ _ _ (⟨none, Op.store 26 _ _, _, _, _, _⟩ :: _) _ _); refine wpList_store_ino rfl _ _ rfl hr7 zIno_len zIno_len rfl rfl ?_; intro w8 hr8 ho8)
      | ((with_reducible show wpList _ _ _ (⟨some 39, _, _, _, _, _⟩ :: _) _ _); refine wpList_load_ino rfl _ rfl hr8 zIno_len rfl ?_)
      | ((with_reducible show wpList _ _ _ (⟨some 40, _, _, _, _, _⟩ :: _) _ _); refine wpList_build_ino rfl rfl ?_)
      | ((with_reducible show wpList _ _ _ (⟨some 41, _, _, _, _, _⟩ :: _) _ _); refine wpList_eql_ino rfl rfl zIno zIno rfl rfl zIno_len zIno_len ?_)
      | (go_at_call 11; refine (awake_any _).mono ?_; rintro e w9 ⟨rfl, hk9⟩))
    go_ret
    have k5 := hk1.trans (hk5.mono hk1.size)
    have k6 := k5.trans (hk6.mono k5.size)
    have k7 := k6.trans (hk7.mono k6.size)
    have k8 := ho8.below k7 k6.size
    exact ⟨by simp, k8.trans (hk9.mono k8.size)⟩
  · rintro e w6 ⟨rfl, hk6⟩
    have hv : getV N = dec N := by simp [getV, hi]
    rw [hv, hi]
    have hdl := dec_len N
    have hne := HOT.out hi
    clear hi hv hs5 HOT
    generalize dec N = D at *
    have HDL := Lib.hid hdl
    have HR1 := Lib.hid ((hr1.below hk5 hlt1).below hk6 (Nat.lt_of_lt_of_le hlt1 hk5.size))
    clear hdl hr1
    go_wp2_with (first
      | ((with_reducible show wpList _ _ _ (⟨some 9, _, _, _, _, _⟩ :: _) _ _); refine wpList_alloc_ino rfl rfl ?_; intro w7 hr7 hk7 hlt7)
      | ((with_reducible show wpList _ _ _ (⟨none, Op.store 26 _ _, _, _, _, _⟩ :: _) _ _); refine wpList_store_ino rfl _ _ rfl hr7 zIno_len HDL.out rfl rfl ?_; intro w8 hr8 ho8)
      | ((with_reducible show wpList _ _ _ (⟨some 46, _, _, _, _, _⟩ :: _) _ _); refine wpList_load_ino rfl _ rfl hr8 HDL.out rfl ?_)
      | ((with_reducible show wpList _ _ _ (⟨some 47, _, _, _, _, _⟩ :: _) _ _); refine wpList_load_ino rfl _ rfl ((HR1.out.below hk7 (HR1.out.lt (by rw [HX.out]; decide))).only ho8 (Nat.ne_of_lt (HR1.out.lt (by rw [HX.out]; decide)))) HX.out rfl ?_)
      | ((with_reducible show wpList _ _ _ (⟨some 48, _, _, _, _, _⟩ :: _) _ _); refine wpList_neq_ino rfl rfl D xs rfl rfl HDL.out HX.out ?_)
      | (go_at_call 11; refine (awake_any _).mono ?_; rintro e w9 ⟨rfl, hk9⟩))
    go_ret
    have k5 := hk1.trans (hk5.mono hk1.size)
    have k6 := k5.trans (hk6.mono k5.size)
    have k7 := k6.trans (hk7.mono k6.size)
    have k8 := ho8.below k7 k6.size
    exact ⟨by simp, k8.trans (hk9.mono k8.size)⟩
end Go.Proofs.Ytbhpkknimjmpjaa.In
