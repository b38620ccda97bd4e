/- The law of layer 3: Ring. -/
import Derived.Test.YtoocpmmgoljncaaMLawB
namespace Go.Proofs.Ytoocpmmgoljncaa
open Go.RowKit Num
set_option maxRecDepth 20000
set_option linter.unusedVariables false
set_option maxHeartbeats 8000000 in
theorem ring_walk (a b A B : ByteArray) (ng : Bool) (E M : ByteArray) (w : World) (sa : a.size ≤ maxLen) (sb : b.size ≤ maxLen) :
    Calls Try.prog 7 #[.string a, .string b, .agg #[.string A, .string B, .bool ng, .string E, .string M]] w fun e w' => e = .returned (.bool true) ∧ Below w.heap.size w w' := by
  unfold maxLen at sa sb
  have hb := (Below.refl _ w).alloc (Nat.le_refl _) (.cells #[.string A, .string B, .bool ng, .string E, .string M] 41)
  have hN := NB.new w A B ng E M
  by_cases hf : fewB A B E M = true
  rotate_left
  · have HF := Lib.hid (show fewB A B E M = false by simpa using hf)
    clear hf
    go_enter Try.func7, Try.ntmps7
    go_wp2_with fail
    generalize w.alloc _ = w0 at hN hb ⊢
    refine (few_any A B ng E M _).mono ?_; rw [HF.out]; rintro e w1 ⟨rfl, b1⟩
    have N1 := hN.below b1 hN.lt
    replace hb := bbl hb b1
    have c0 := N1.c0; have c4 := N1.c4
    clear b1 hN
    go_wp2_with fail
    refine (awakeM _).mono ?_; rintro e w2 ⟨rfl, b2⟩
    replace hb := bbl hb b2
    go_wp2_with fail
    go_ret
    exact ⟨rfl, hb⟩
  have HF := Lib.hid hf
  by_cases l1 : a.size ≤ 24
  rotate_left
  · clear hf
    go_enter Try.func7, Try.ntmps7
    go_wp2_with fail
    generalize w.alloc _ = w0 at hN hb ⊢
    refine (few_any A B ng E M _).mono ?_; rw [HF.out]; rintro e w1 ⟨rfl, b1⟩
    have N1 := hN.below b1 hN.lt
    replace hb := bbl hb b1
    have c0 := N1.c0; have c4 := N1.c4
    clear b1 hN
    go_wp2_with fail
    refine (awakeM _).mono ?_; rintro e w2 ⟨rfl, b2⟩
    replace hb := bbl hb b2
    go_wp2_with fail
    go_ret
    exact ⟨rfl, hb⟩
  by_cases l2 : b.size ≤ 24
  rotate_left
  · clear hf
    go_enter Try.func7, Try.ntmps7
    go_wp2_with fail
    generalize w.alloc _ = w0 at hN hb ⊢
    refine (few_any A B ng E M _).mono ?_; rw [HF.out]; rintro e w1 ⟨rfl, b1⟩
    have N1 := hN.below b1 hN.lt
    replace hb := bbl hb b1
    have c0 := N1.c0; have c4 := N1.c4
    clear b1 hN
    go_wp2_with fail
    refine (awakeM _).mono ?_; rintro e w2 ⟨rfl, b2⟩
    replace hb := bbl hb b2
    go_wp2_with fail
    go_ret
    exact ⟨rfl, hb⟩
  by_cases v1 : validB a = true
  rotate_left
  · replace v1 := valid_no v1
    clear hf
    go_enter Try.func7, Try.ntmps7
    go_wp2_with fail
    generalize w.alloc _ = w0 at hN hb ⊢
    refine (few_any A B ng E M _).mono ?_; rw [HF.out]; rintro e w1 ⟨rfl, b1⟩
    have N1 := hN.below b1 hN.lt
    replace hb := bbl hb b1
    have c0 := N1.c0; have c4 := N1.c4
    clear b1 hN
    go_wp2_with fail
    refine (refValid_any _ _).mono ?_; rw [v1]; rintro e w' ⟨rfl, rfl⟩
    go_wp2_with fail
    refine (awakeM _).mono ?_; rintro e w2 ⟨rfl, b2⟩
    replace hb := bbl hb b2
    go_wp2_with fail
    go_ret
    exact ⟨rfl, hb⟩
  by_cases v2 : validB b = true
  rotate_left
  · replace v2 := valid_no v2
    clear hf
    go_enter Try.func7, Try.ntmps7
    go_wp2_with fail
    generalize w.alloc _ = w0 at hN hb ⊢
    refine (few_any A B ng E M _).mono ?_; rw [HF.out]; rintro e w1 ⟨rfl, b1⟩
    have N1 := hN.below b1 hN.lt
    replace hb := bbl hb b1
    have c0 := N1.c0; have c4 := N1.c4
    clear b1 hN
    go_wp2_with fail
    refine (refValid_any _ _).mono ?_; rw [v1]; rintro e w' ⟨rfl, rfl⟩
    go_wp2_with fail
    refine (refValid_any _ _).mono ?_; rw [v2]; rintro e w' ⟨rfl, rfl⟩
    go_wp2_with fail
    refine (awakeM _).mono ?_; rintro e w2 ⟨rfl, b2⟩
    replace hb := bbl hb b2
    go_wp2_with fail
    go_ret
    exact ⟨rfl, hb⟩
  by_cases v3 : validB A = true
  rotate_left
  · replace v3 := valid_no v3
    clear hf
    go_enter Try.func7, Try.ntmps7
    go_wp2_with fail
    generalize w.alloc _ = w0 at hN hb ⊢
    refine (few_any A B ng E M _).mono ?_; rw [HF.out]; rintro e w1 ⟨rfl, b1⟩
    have N1 := hN.below b1 hN.lt
    replace hb := bbl hb b1
    have c0 := N1.c0; have c4 := N1.c4
    clear b1 hN
    go_wp2_with fail
    refine (refValid_any _ _).mono ?_; rw [v1]; rintro e w' ⟨rfl, rfl⟩
    go_wp2_with fail
    refine (refValid_any _ _).mono ?_; rw [v2]; rintro e w' ⟨rfl, rfl⟩
    go_wp2_with fail
    refine (refValid_any _ _).mono ?_; rw [v3]; rintro e w' ⟨rfl, rfl⟩
    go_wp2_with fail
    refine (awakeM _).mono ?_; rintro e w2 ⟨rfl, b2⟩
    replace hb := bbl hb b2
    go_wp2_with fail
    go_ret
    exact ⟨rfl, hb⟩
  by_cases v4 : validB M = true
  rotate_left
  · replace v4 := valid_no v4
    clear hf
    go_enter Try.func7, Try.ntmps7
    go_wp2_with fail
    generalize w.alloc _ = w0 at hN hb ⊢
    refine (few_any A B ng E M _).mono ?_; rw [HF.out]; rintro e w1 ⟨rfl, b1⟩
    have N1 := hN.below b1 hN.lt
    replace hb := bbl hb b1
    have c0 := N1.c0; have c4 := N1.c4
    clear b1 hN
    go_wp2_with fail
    refine (refValid_any _ _).mono ?_; rw [v1]; rintro e w' ⟨rfl, rfl⟩
    go_wp2_with fail
    refine (refValid_any _ _).mono ?_; rw [v2]; rintro e w' ⟨rfl, rfl⟩
    go_wp2_with fail
    refine (refValid_any _ _).mono ?_; rw [v3]; rintro e w' ⟨rfl, rfl⟩
    go_wp2_with fail
    refine (refValid_any _ _).mono ?_; rw [v4]; rintro e w' ⟨rfl, rfl⟩
    go_wp2_with fail
    refine (awakeM _).mono ?_; rintro e w2 ⟨rfl, b2⟩
    replace hb := bbl hb b2
    go_wp2_with fail
    go_ret
    exact ⟨rfl, hb⟩
  by_cases h0 : M.size = 0
  · have hM0 : M = ⟨#[]⟩ := bytes_zero h0
    have te : M.toList = [] := by rw [hM0]; decide +kernel
    clear hf h0 hM0
    go_enter Try.func7, Try.ntmps7
    go_wp2_with fail
    generalize w.alloc _ = w0 at hN hb ⊢
    refine (few_any A B ng E M _).mono ?_; rw [HF.out]; rintro e w1 ⟨rfl, b1⟩
    have N1 := hN.below b1 hN.lt
    replace hb := bbl hb b1
    have c0 := N1.c0; have c4 := N1.c4
    clear b1 hN
    go_wp2_with fail
    refine (refValid_any _ _).mono ?_; rw [v1]; rintro e w' ⟨rfl, rfl⟩
    go_wp2_with fail
    refine (refValid_any _ _).mono ?_; rw [v2]; rintro e w' ⟨rfl, rfl⟩
    go_wp2_with fail
    refine (refValid_any _ _).mono ?_; rw [v3]; rintro e w' ⟨rfl, rfl⟩
    go_wp2_with fail
    refine (refValid_any _ _).mono ?_; rw [v4]; rintro e w' ⟨rfl, rfl⟩
    go_wp2_with fail
    refine (awakeM _).mono ?_; rintro e w2 ⟨rfl, b2⟩
    replace hb := bbl hb b2
    go_wp2_with fail
    go_ret
    exact ⟨rfl, hb⟩
  have hM := isN_of_valid v4
  have hp : 0 < nv M := by
    rcases Nat.eq_zero_or_pos (nv M) with h | h
    · exfalso
      have := hM.size
      rw [h, blen_zero] at this
      exact h0 this
    · exact h
  exact ring_ok a b A B ng E M w _ _ _ _ (isN_of_valid v1) (isN_of_valid v2) (isN_of_valid v3) hM hp hf l1 l2
end Go.Proofs.Ytoocpmmgoljncaa
