/- The reference of layer 2: Make, Valid, From, Neg, Of, Add, Sub, Mul where the result fits. -/
import Derived.Test.YtcjbbneiobnmkaaInt
import Derived.Test.YtcjbbneiobnmkaaRfA
import Derived.Test.YtcjbbneiobnmkaaInv
namespace Go.Proofs.Ytcjbbneiobnmkaa
open Go.RowKit Num
set_option maxRecDepth 20000
set_option linter.unusedVariables false
theorem ref2Valid_any (b : Bool) (s : ByteArray) (w : World) :
    Calls Try.prog 12 #[.agg #[.bool b, .string s]] w fun e w' => e = .returned (.bool (validB s && !(b && s.toList.isEmpty))) ∧ Below w.heap.size w w' := by
  have hb := (Below.refl _ w).alloc (Nat.le_refl _) (.cells #[.bool b, .string s] 34)
  by_cases hv : validB s = true
  · have HV := Lib.hid hv
    rw [hv, Bool.true_and]
    clear hv
    cases b
    · go_enter Try.func12, Try.ntmps12
      go_wp2_with fail
      refine (refValid_any _ _).mono ?_
      rintro e w1 ⟨rfl, rfl⟩
      rw [HV.out]
      go_wp2_with fail
      go_ret
      exact ⟨rfl, hb⟩
    · go_enter Try.func12, Try.ntmps12
      go_wp2_with fail
      refine (refValid_any _ _).mono ?_
      rintro e w1 ⟨rfl, rfl⟩
      rw [HV.out]
      go_wp2_with fail
      go_ret
      exact ⟨by simp, hb⟩
  · have hv' : validB s = false := by simpa using hv
    rw [hv', Bool.false_and]
    have HV := Lib.hid hv'
    clear hv hv'
    go_enter Try.func12, Try.ntmps12
    go_wp2_with fail
    refine (refValid_any _ _).mono ?_
    rintro e w1 ⟨rfl, rfl⟩
    rw [HV.out]
    go_wp2_with fail
    go_ret
    exact ⟨rfl, hb⟩
theorem ref2Valid_z (z : Int) (w : World) (h : ZOk z) :
    Calls Try.prog 12 #[.agg #[.bool (zb z), .string (zs z)]] w fun e w' => e = .returned (.bool true) ∧ Below w.heap.size w w' :=
  (ref2Valid_any _ _ w).mono fun e w' ⟨h1, h2⟩ => ⟨by rw [h1, h.isN.valid, zb_not]; rfl, h2⟩
end Go.Proofs.Ytcjbbneiobnmkaa
