/-
  'WireGets' walked: any bytes, read as a number and as a text, from anywhere, by the program and by the document's answer: the answers are alike.
-/
import Derived.Test.YtbjfjbndekcboaaWire7
namespace Go.Proofs.Ytbjfjbndekcboaa.Wi
open Go.RowKit Wd
set_option linter.unusedVariables false
attribute [local go_sem] str_toList str_append str_size

def getV (l : List UInt8) (a k : Int) : Int := if getBad l.length a k then 0 else (leN (seg l a.toNat k.toNat) : Int)
def getO (l : List UInt8) (a k : Int) : Bool := if getBad l.length a k then false else true
instance (n : Nat) (a k : Int) : Decidable (textBad n a k) := by unfold textBad; infer_instance
def txtV (l : List UInt8) (a k : Int) : List UInt8 := if textBad l.length a k then [] else tS l a.toNat k.toNat
def txtO (l : List UInt8) (a k : Int) : Bool := if textBad l.length a k then false else tB l a.toNat k.toNat

section
variable (A : Option Addr) (l : List UInt8) (c : Nat) (a k : Int) (w : World) (hs : Sl w w.heap.size 1 A l.length (l.map bv)) (hc : l.length ≤ c) (hc2 : c ≤ maxLen) (ha : -9223372036854775808 ≤ a) (ha2 : a ≤ 9223372036854775807)
include hs hc hc2 ha ha2
theorem get_any : Calls Try.prog 16 #[.slice A l.length c, .int .i64 a, .int .i64 k] w fun e w' => e = .returned (.tuple #[.int .i64 (getV l a k), .bool (getO l a k)]) ∧ w = w' := by
  unfold getV getO
  by_cases h : getBad l.length a k
  · rw [if_pos h, if_pos h]
    exact get_no A _ c a k w (by omega) h ha ha2
  · rw [if_neg h, if_neg h]
    unfold getBad at h
    exact get_yes A l c a k w hs hc hc2 (by omega) (by omega) (by omega) (by omega)
theorem rget_any : Calls Try.prog 18 #[.slice A l.length c, .int .i64 a, .int .i64 k] w fun e w' => e = .returned (.tuple #[.int .i64 (getV l a k), .bool (getO l a k)]) ∧ w = w' := by
  unfold getV getO
  by_cases h : getBad l.length a k
  · rw [if_pos h, if_pos h]
    exact rget_no A _ c a k w (by omega) h ha ha2
  · rw [if_neg h, if_neg h]
    unfold getBad at h
    exact rget_yes A l c a k w hs (by omega) (by omega) (by omega) (by omega) (by omega)
theorem gtext_any : Calls Try.prog 17 #[.slice A l.length c, .int .i64 a, .int .i64 k] w fun e w' => e = .returned (.tuple #[.string (str (txtV l a k)), .bool (txtO l a k)]) ∧ w = w' := by
  unfold txtV txtO
  by_cases h : textBad l.length a k
  · rw [if_pos h, if_pos h]
    exact gtext_no A _ c a k w (by omega) h ha ha2
  · rw [if_neg h, if_neg h]
    unfold textBad at h
    exact gtext_yes A l c a k w hs hc hc2 (by omega) (by omega) (by omega) (by omega)
theorem rgtext_any : Calls Try.prog 19 #[.slice A l.length c, .int .i64 a, .int .i64 k] w fun e w' => e = .returned (.tuple #[.string (str (txtV l a k)), .bool (txtO l a k)]) ∧ w = w' := by
  unfold txtV txtO
  by_cases h : textBad l.length a k
  · rw [if_pos h, if_pos h]
    exact rgtext_no A _ c a k w (by omega) h ha ha2
  · rw [if_neg h, if_neg h]
    unfold textBad at h
    exact rgtext_yes A l c a k w hs hc hc2 (by omega) (by omega) (by omega) (by omega)
end

set_option maxHeartbeats 800000 in
theorem wireGets_walk (A : Option Addr) (l : List UInt8) (c : Nat) (a k : Int) (w : World) (hs : Sl w w.heap.size 1 A l.length (l.map bv)) (hc : l.length ≤ c) (hc2 : c ≤ 140737488351232)
    (ha : -9223372036854775808 ≤ a) (ha2 : a ≤ 9223372036854775807) (hk : -9223372036854775808 ≤ k) (hk2 : k ≤ 9223372036854775807) :
    Calls Try.prog 6 #[.slice A l.length c, .int .i64 a, .int .i64 k] w fun e w' => e = .returned (.bool true) ∧ Below w.heap.size w w' := by
  have hcm : c ≤ maxLen := by unfold maxLen; omega
  have HH := Lib.hid (And.intro hs hcm)
  clear hcm hs
  go_enter Try.func6, Try.ntmps6
  go_wp2_with fail
  refine (bytes_any A l c w HH.out.1 hc (by omega)).mono ?_
  rintro e w1 ⟨A1, c1, rfl, hm1, hb1⟩
  obtain ⟨_, _, hv, hlc1, hcm1, hs1⟩ := hm1.form
  injection hv with e1 _ e2
  subst e1; subst e2
  have hs0 := HH.out.1.on (Nat.le_refl _) hb1
  have H1 := Lib.hid hs1
  have H0 := Lib.hid hs0
  have HM := Lib.hid hm1
  clear hs1 hs0 hm1
  go_wp2_with fail
  refine (get_any A1 l c1 a k w1 H1.out hlc1 hcm1 ha ha2).mono ?_
  rintro e w2 ⟨rfl, rfl⟩
  go_wp2_with fail
  refine (rget_any A l c a k w1 H0.out hc HH.out.2 ha ha2).mono ?_
  rintro e w2 ⟨rfl, rfl⟩
  go_wp2_with fail
  refine (gtext_any A1 l c1 a k w1 H1.out hlc1 hcm1 ha ha2).mono ?_
  rintro e w2 ⟨rfl, rfl⟩
  go_wp2_with fail
  refine (rgtext_any A l c a k w1 H0.out hc HH.out.2 ha ha2).mono ?_
  rintro e w2 ⟨rfl, rfl⟩
  go_wp2_with (first
    | ((with_reducible show wpList _ _ _ (⟨some 66, _, _, _, _, _⟩ :: _) _ _); refine wpList_convert_sl rfl _ _ 5 _ rfl Try.underlying22 Try.underlying5 Try.underlying9 _ _ _ l rfl H1.out rfl ?_)
    | ((with_reducible show wpList _ _ _ (⟨some 68, _, _, _, _, _⟩ :: _) _ _); refine wpList_convert_sl rfl _ _ 5 _ rfl Try.underlying22 Try.underlying5 Try.underlying9 _ _ _ l rfl H0.out rfl ?_)
    | (go_at_call 13; refine (awake_any w1).mono ?_; rintro e w2 ⟨rfl, hb2⟩))
  go_ret
  exact ⟨rfl, hb1.trans (hb2.mono hb1.size)⟩
end Go.Proofs.Ytbjfjbndekcboaa.Wi
