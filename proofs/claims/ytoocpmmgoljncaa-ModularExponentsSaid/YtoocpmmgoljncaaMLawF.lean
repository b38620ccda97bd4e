/- The law of layer 3 on exponents, for all inputs. -/
import Derived.Test.YtoocpmmgoljncaaMLawE
import Derived.Test.YtoocpmmgoljncaaMLawB
import Derived.OpenShut
namespace Go.Proofs.Ytoocpmmgoljncaa
open Go.RowKit Num
set_option maxRecDepth 20000
set_option linter.unusedVariables false
theorem u16_nat {x : Int} (h : (Lit.int .u16 x).wf = true) : ∃ n : Nat, x = n ∧ n < 65536 := by
  obtain ⟨h1, h2⟩ := bounds_u16 h
  exact ⟨x.toNat, by omega, by omega⟩
set_option maxHeartbeats 8000000 in
theorem exps_walk (A B : ByteArray) (ng : Bool) (E M : ByteArray) (x y : Int) (w : World) (wx : (Lit.int .u16 x).wf = true) (wy : (Lit.int .u16 y).wf = true) :
    Calls Try.prog 8 #[.agg #[.string A, .string B, .bool ng, .string E, .string M], .int .u16 x, .int .u16 y] w fun e w' => e = .returned (.bool true) ∧ Below w.heap.size w w' := by
  obtain ⟨e, rfl, he⟩ := u16_nat wx
  obtain ⟨f, rfl, hf'⟩ := u16_nat wy
  clear wx wy
  have hb := (Below.refl _ w).alloc (Nat.le_refl _) (.cells #[.string A, .string B, .bool ng, .string E, .string M] 41)
  have hN := NB.new w A B ng E M
  by_cases hf : fewB A B E M = true
  rotate_left
  · have HF := Lib.hid (show fewB A B E M = false by simpa using hf)
    clear hf
    go_enter Try.func8, Try.ntmps8
    go_wp2_with fail
    generalize w.alloc _ = w0 at hN hb ⊢
    refine (few_any A B ng E M _).mono ?_; rw [HF.out]; rintro r w1 ⟨rfl, b1⟩
    have N1 := hN.below b1 hN.lt
    replace hb := bbl hb b1
    have c0 := N1.c0; have c4 := N1.c4
    clear b1 hN
    go_wp2_with fail
    refine (awakeM _).mono ?_; rintro r w2 ⟨rfl, b2⟩
    replace hb := bbl hb b2
    go_wp2_with fail
    go_ret
    exact ⟨rfl, hb⟩
  have HF := Lib.hid hf
  by_cases v1 : validB A = true
  rotate_left
  · replace v1 := valid_no v1
    clear hf
    go_enter Try.func8, Try.ntmps8
    go_wp2_with fail
    generalize w.alloc _ = w0 at hN hb ⊢
    refine (few_any A B ng E M _).mono ?_; rw [HF.out]; rintro r w1 ⟨rfl, b1⟩
    have N1 := hN.below b1 hN.lt
    replace hb := bbl hb b1
    have c0 := N1.c0; have c4 := N1.c4
    clear b1 hN
    go_wp2_with fail
    refine (refValid_any _ _).mono ?_; rw [v1]; rintro r w' ⟨rfl, rfl⟩
    go_wp2_with fail
    refine (awakeM _).mono ?_; rintro r w2 ⟨rfl, b2⟩
    replace hb := bbl hb b2
    go_wp2_with fail
    go_ret
    exact ⟨rfl, hb⟩
  by_cases v2 : validB M = true
  rotate_left
  · replace v2 := valid_no v2
    clear hf
    go_enter Try.func8, Try.ntmps8
    go_wp2_with fail
    generalize w.alloc _ = w0 at hN hb ⊢
    refine (few_any A B ng E M _).mono ?_; rw [HF.out]; rintro r w1 ⟨rfl, b1⟩
    have N1 := hN.below b1 hN.lt
    replace hb := bbl hb b1
    have c0 := N1.c0; have c4 := N1.c4
    clear b1 hN
    go_wp2_with fail
    refine (refValid_any _ _).mono ?_; rw [v1]; rintro r w' ⟨rfl, rfl⟩
    go_wp2_with fail
    refine (refValid_any _ _).mono ?_; rw [v2]; rintro r w' ⟨rfl, rfl⟩
    go_wp2_with fail
    refine (awakeM _).mono ?_; rintro r w2 ⟨rfl, b2⟩
    replace hb := bbl hb b2
    go_wp2_with fail
    go_ret
    exact ⟨rfl, hb⟩
  by_cases h0 : M.size = 0
  · have hM0 : M = ⟨#[]⟩ := bytes_zero h0
    have te : M.toList = [] := by rw [hM0]; decide +kernel
    clear hf h0 hM0
    go_enter Try.func8, Try.ntmps8
    go_wp2_with fail
    generalize w.alloc _ = w0 at hN hb ⊢
    refine (few_any A B ng E M _).mono ?_; rw [HF.out]; rintro r w1 ⟨rfl, b1⟩
    have N1 := hN.below b1 hN.lt
    replace hb := bbl hb b1
    have c0 := N1.c0; have c4 := N1.c4
    clear b1 hN
    go_wp2_with fail
    refine (refValid_any _ _).mono ?_; rw [v1]; rintro r w' ⟨rfl, rfl⟩
    go_wp2_with fail
    refine (refValid_any _ _).mono ?_; rw [v2]; rintro r w' ⟨rfl, rfl⟩
    go_wp2_with fail
    refine (awakeM _).mono ?_; rintro r w2 ⟨rfl, b2⟩
    replace hb := bbl hb b2
    go_wp2_with fail
    go_ret
    exact ⟨rfl, hb⟩
  have hM := isN_of_valid v2
  have hp : 0 < nv M := by
    rcases Nat.eq_zero_or_pos (nv M) with h | h
    · exfalso
      have := hM.size
      rw [h, blen_zero] at this
      exact h0 this
    · exact h
  exact exps_ok A B ng E M e f w _ _ he hf' (isN_of_valid v1) hM hp hf
end Go.Proofs.Ytoocpmmgoljncaa
