/- The laws of layer 3: the examples, and the laws on sums and products. -/
import Derived.Test.YtoocpmmgoljncaaGreatR3
import Derived.Test.YtoocpmmgoljncaaGreatJoin
namespace Go.Proofs.YtoocpmmgoljncaaGreat
open Go.RowKit Num
set_option maxRecDepth 20000
set_option linter.unusedVariables false
theorem num_any (n : Nat) (w : World) (hn : n < 18446744073709551616) :
    Calls Tryz.prog 11 #[.int .u64 (n : Int)] w fun e w' => e = .returned (.string (enc n)) ∧ Below w.heap.size w w' := by
  go_enter Tryz.func11, Tryz.ntmps11
  go_wp2_with fail
  refine (refOf_any n _ hn).mono ?_
  rintro e w1 ⟨rfl, hb⟩
  go_wp2_with fail
  go_ret
  exact ⟨rfl, hb⟩
theorem sm8 {n : Nat} (h : n < 18446744073709551616) : IsN (enc n) n := IsN.mk' (blen_pow (k := 8) (by omega) (by omega))
theorem k_sub : (2 + (7 - 5 % 7)) % 7 = 4 := by decide
theorem k_exp : 3 ^ 4 % 7 = 4 := by decide
theorem k_inv : invm 10 7 = 5 := by decide +kernel
theorem k_joinX : joinX 1 4 3 6 = 9 := by decide +kernel
theorem k_joinL : 4 * (6 / Nat.gcd 4 6) = 12 := by decide +kernel
theorem k_jac : jac (2 % 5) 5 1 = -1 := by decide +kernel
set_option maxHeartbeats 4000000 in
theorem awakeM (w : World) : Calls Tryz.prog 6 #[] w fun e w' => e = .returned (.bool true) ∧ Below w.heap.size w w' := by
  have n1 : Hid (∀ n, n ≤ 12 → IsN (enc n) n) := fun n hn => sm8 (by omega)
  have e4 := enc_same' 4
  have e5 := enc_same' 5
  have e9 := enc_same' 9
  have e12 := enc_same' 12
  go_enter Tryz.func6, Tryz.ntmps6
  go_wp2_with fail
  refine (num_any 2 _ (by decide)).mono ?_; rintro e w1 ⟨rfl, b1⟩
  go_wp2_with fail
  refine (num_any 5 _ (by decide)).mono ?_; rintro e w2 ⟨rfl, b2⟩
  replace b1 := bbl b1 b2
  go_wp2_with fail
  refine (num_any 7 _ (by decide)).mono ?_; rintro e w3 ⟨rfl, b3⟩
  replace b1 := bbl b1 b3
  clear b2 b3
  go_wp2_with fail
  refine (ModSub_ok _ _ _ 2 5 7 _ (n1.out 2 (by decide)) (n1.out 5 (by decide)) (n1.out 7 (by decide)) (by decide)).mono ?_; rw [k_sub]; rintro e w4 ⟨rfl, b4⟩
  replace b1 := bbl b1 b4
  clear b4
  go_wp2_with fail
  refine (num_any 3 _ (by decide)).mono ?_; rintro e w1 ⟨rfl, b2⟩
  replace b1 := bbl b1 b2
  go_wp2_with fail
  refine (num_any 4 _ (by decide)).mono ?_; rintro e w2 ⟨rfl, b2⟩
  replace b1 := bbl b1 b2
  go_wp2_with fail
  refine (num_any 7 _ (by decide)).mono ?_; rintro e w3 ⟨rfl, b3⟩
  replace b1 := bbl b1 b3
  clear b2 b3
  go_wp2_with fail
  refine (Exp_any _ _ _ 3 4 7 _ (n1.out 3 (by decide)) (n1.out 4 (by decide)) (n1.out 7 (by decide)) (by decide)).mono ?_; rw [k_exp]; rintro e w4 ⟨rfl, b4⟩
  replace b1 := bbl b1 b4
  clear b4
  go_wp2_with fail
  refine (num_any 10 _ (by decide)).mono ?_; rintro e w1 ⟨rfl, b2⟩
  replace b1 := bbl b1 b2
  go_wp2_with fail
  refine (num_any 7 _ (by decide)).mono ?_; rintro e w3 ⟨rfl, b3⟩
  replace b1 := bbl b1 b3
  clear b2 b3
  go_wp2_with fail
  refine (Inverse_yes _ _ 10 7 _ (n1.out 10 (by decide)) (n1.out 7 (by decide)) (by decide) (by decide +kernel)).mono ?_; rw [k_inv]; rintro e w4 ⟨rfl, b4⟩
  replace b1 := bbl b1 b4
  clear b4
  go_wp2_with fail
  refine (num_any 1 _ (by decide)).mono ?_; rintro e w1 ⟨rfl, b2⟩
  replace b1 := bbl b1 b2
  clear b2
  go_wp2_with fail
  refine (num_any 4 _ (by decide)).mono ?_; rintro e w1 ⟨rfl, b2⟩
  replace b1 := bbl b1 b2
  clear b2
  go_wp2_with fail
  refine (num_any 3 _ (by decide)).mono ?_; rintro e w1 ⟨rfl, b2⟩
  replace b1 := bbl b1 b2
  clear b2
  go_wp2_with fail
  refine (num_any 6 _ (by decide)).mono ?_; rintro e w1 ⟨rfl, b2⟩
  replace b1 := bbl b1 b2
  clear b2
  go_wp2_with fail
  refine (Join_yes _ _ _ _ 1 4 3 6 _ (n1.out 1 (by decide)) (n1.out 4 (by decide)) (n1.out 3 (by decide)) (n1.out 6 (by decide)) (by decide) (by decide) (by decide +kernel) (by rw [k_joinL]; decide)).mono ?_; rw [k_joinX, k_joinL]; rintro e w4 ⟨rfl, b4⟩
  replace b1 := bbl b1 b4
  clear b4
  go_wp2_with fail
  refine (num_any 1 _ (by decide)).mono ?_; rintro e w1 ⟨rfl, b2⟩
  replace b1 := bbl b1 b2
  clear b2
  go_wp2_with fail
  refine (num_any 4 _ (by decide)).mono ?_; rintro e w1 ⟨rfl, b2⟩
  replace b1 := bbl b1 b2
  clear b2
  go_wp2_with fail
  refine (num_any 2 _ (by decide)).mono ?_; rintro e w1 ⟨rfl, b2⟩
  replace b1 := bbl b1 b2
  clear b2
  go_wp2_with fail
  refine (num_any 6 _ (by decide)).mono ?_; rintro e w1 ⟨rfl, b2⟩
  replace b1 := bbl b1 b2
  clear b2
  go_wp2_with fail
  refine (Join_no _ _ _ _ 1 4 2 6 _ (n1.out 1 (by decide)) (n1.out 4 (by decide)) (n1.out 2 (by decide)) (n1.out 6 (by decide)) (by decide) (by decide) (by decide +kernel)).mono ?_; rintro e w4 ⟨rfl, b4⟩
  replace b1 := bbl b1 b4
  clear b4
  go_wp2_with fail
  refine (num_any 2 _ (by decide)).mono ?_; rintro e w1 ⟨rfl, b2⟩
  replace b1 := bbl b1 b2
  clear b2
  go_wp2_with fail
  refine (num_any 5 _ (by decide)).mono ?_; rintro e w1 ⟨rfl, b2⟩
  replace b1 := bbl b1 b2
  clear b2
  go_wp2_with fail
  refine (Jacobi_odd _ _ 2 5 _ (n1.out 2 (by decide)) (n1.out 5 (by decide)) (by decide)).mono ?_; rw [k_jac]; rintro e w4 ⟨rfl, b4⟩
  replace b1 := bbl b1 b4
  clear b4
  go_wp2_with fail
  refine (num_any 4 _ (by decide)).mono ?_; rintro e w1 ⟨rfl, b2⟩
  replace b1 := bbl b1 b2
  clear b2
  go_wp2_with fail
  refine (num_any 4 _ (by decide)).mono ?_; rintro e w1 ⟨rfl, b2⟩
  replace b1 := bbl b1 b2
  clear b2
  go_wp2_with fail
  refine (num_any 5 _ (by decide)).mono ?_; rintro e w1 ⟨rfl, b2⟩
  replace b1 := bbl b1 b2
  clear b2
  go_wp2_with fail
  refine (num_any 9 _ (by decide)).mono ?_; rintro e w1 ⟨rfl, b2⟩
  replace b1 := bbl b1 b2
  clear b2
  go_wp2_with fail
  refine (num_any 12 _ (by decide)).mono ?_; rintro e w1 ⟨rfl, b2⟩
  replace b1 := bbl b1 b2
  clear b2
  go_wp2_with fail
  go_ret
  exact ⟨rfl, b1⟩
/-- a variable of type Numbers -/
def NB (W : World) (b : Nat) (A B : ByteArray) (ng : Bool) (E M : ByteArray) : Prop := W.heap[b]? = some (.cells #[.string A, .string B, .bool ng, .string E, .string M] 26 (0, 0))
section
variable {W W' : World} {b : Nat} {A B : ByteArray} {ng : Bool} {E M : ByteArray}
theorem NB.lt (h : NB W b A B ng E M) : b < W.heap.size := (Array.getElem?_eq_some_iff.1 h).1
theorem NB.c0 (h : NB W b A B ng E M) : W.cell? ⟨b, 0, none⟩ = some (.string A) := by rw [Lib.cell_of_heap h]; rfl
theorem NB.c1 (h : NB W b A B ng E M) : W.cell? ⟨b, 1, none⟩ = some (.string B) := by rw [Lib.cell_of_heap h]; rfl
theorem NB.c2 (h : NB W b A B ng E M) : W.cell? ⟨b, 2, none⟩ = some (.bool ng) := by rw [Lib.cell_of_heap h]; rfl
theorem NB.c3 (h : NB W b A B ng E M) : W.cell? ⟨b, 3, none⟩ = some (.string E) := by rw [Lib.cell_of_heap h]; rfl
theorem NB.c4 (h : NB W b A B ng E M) : W.cell? ⟨b, 4, none⟩ = some (.string M) := by rw [Lib.cell_of_heap h]; rfl
theorem NB.new (W : World) (A B : ByteArray) (ng : Bool) (E M : ByteArray) : NB (W.alloc (.cells #[.string A, .string B, .bool ng, .string E, .string M] 26)) W.heap.size A B ng E M := heap_alloc_new W _
theorem NB.below {K : Nat} (h : NB W b A B ng E M) (hb : Below K W W') (hB : b < K) : NB W' b A B ng E M := (hb.block b hB).trans h
end
/-- the numbers are short -/
def fewB (A B E M : ByteArray) : Bool := decide (A.size ≤ 24 ∧ B.size ≤ 24 ∧ E.size ≤ 16 ∧ M.size ≤ 8)
theorem few_any (A B : ByteArray) (ng : Bool) (E M : ByteArray) (w : World) :
    Calls Tryz.prog 5 #[.agg #[.string A, .string B, .bool ng, .string E, .string M]] w fun e w' => e = .returned (.bool (fewB A B E M)) ∧ Below w.heap.size w w' := by
  have hb := (Below.refl _ w).alloc (Nat.le_refl _) (.cells #[.string A, .string B, .bool ng, .string E, .string M] 26)
  by_cases h1 : A.size ≤ 24
  · by_cases h2 : B.size ≤ 24
    · by_cases h3 : E.size ≤ 16
      · by_cases h4 : M.size ≤ 8
        · have hf : fewB A B E M = true := decide_eq_true ⟨h1, h2, h3, h4⟩
          have HF := Lib.hid hf
          clear hf
          go_enter Tryz.func5, Tryz.ntmps5
          go_wp2_with fail
          go_ret
          exact ⟨ret_bool ((decide_eq_true (by omega)).trans HF.out.symm), hb⟩
        · have hf : fewB A B E M = false := decide_eq_false fun h => h4 h.2.2.2
          have HF := Lib.hid hf
          clear hf
          go_enter Tryz.func5, Tryz.ntmps5
          go_wp2_with fail
          go_ret
          exact ⟨ret_bool ((decide_eq_false (by omega)).trans HF.out.symm), hb⟩
      · have hf : fewB A B E M = false := decide_eq_false fun h => h3 h.2.2.1
        have HF := Lib.hid hf
        clear hf
        go_enter Tryz.func5, Tryz.ntmps5
        go_wp2_with fail
        go_ret
        exact ⟨ret_bool HF.out.symm, hb⟩
    · have hf : fewB A B E M = false := decide_eq_false fun h => h2 h.2.1
      have HF := Lib.hid hf
      clear hf
      go_enter Tryz.func5, Tryz.ntmps5
      go_wp2_with fail
      go_ret
      exact ⟨ret_bool HF.out.symm, hb⟩
  · have hf : fewB A B E M = false := decide_eq_false fun h => h1 h.1
    have HF := Lib.hid hf
    clear hf
    go_enter Tryz.func5, Tryz.ntmps5
    go_wp2_with fail
    go_ret
    exact ⟨ret_bool HF.out.symm, hb⟩
end Go.Proofs.YtoocpmmgoljncaaGreat
