/- The laws of layer 3: Raises and Inverts. -/
import Derived.Test.YtoocpmmgoljncaaGreatMLaw
import Derived.Test.YtoocpmmgoljncaaGreatR3d
import Derived.Deep.RegionHeld3
namespace Go.Proofs.YtoocpmmgoljncaaGreat
open Go.RowKit Num
set_option maxRecDepth 20000
set_option linter.unusedVariables false
set_option maxHeartbeats 4000000 in
theorem raises_walk (A B : ByteArray) (ng : Bool) (E M : ByteArray) (w : World) :
    Calls Tryz.prog 4 #[.agg #[.string A, .string B, .bool ng, .string E, .string M]] w fun e w' => e = .returned (.bool true) ∧ Below w.heap.size w w' := by
  have hb := (Below.refl _ w).alloc (Nat.le_refl _) (.cells #[.string A, .string B, .bool ng, .string E, .string M] 26)
  have hN := NB.new w A B ng E M
  by_cases hf : fewB A B E M = true
  · have hM : M.size ≤ 64 := by have := of_decide_eq_true hf; omega
    have HF := Lib.hid hf
    clear hf
    go_enter Tryz.func4, Tryz.ntmps4
    go_wp2_with fail
    generalize w.alloc _ = w0 at hN hb ⊢
    refine (few_any A B ng E M _).mono ?_; rw [HF.out]; rintro e w1 ⟨rfl, b1⟩
    have N1 := hN.below b1 hN.lt
    replace hb := bbl hb b1
    have c0 := N1.c0; have c1 := N1.c1; have c2 := N1.c2; have c3 := N1.c3; have c4 := N1.c4
    clear b1 hN
    go_wp2_with fail
    obtain ⟨c, hc⟩ : ∃ c, chk [A, E] [M] = c := ⟨_, rfl⟩
    obtain ⟨r1, hr1⟩ : ∃ r, mo c (nv A ^ nv E % nv M) = r := ⟨_, rfl⟩
    obtain ⟨d, hd⟩ : ∃ d, pwE A ng E M = d := ⟨_, rfl⟩
    obtain ⟨r2, hr2⟩ : ∃ r, pwS A ng E M = r := ⟨_, rfl⟩
    have HR := Lib.hid (And.intro hc (And.intro hr1 (And.intro hd hr2)))
    clear hc hr1 hd hr2
    refine (ModExp_any A E M _).mono ?_; rw [HR.out.1, HR.out.2.1]; rintro e w2 ⟨rfl, b2⟩
    replace hb := bbl hb b2
    have N2 := N1.below b2 N1.lt
    have c0 := N2.c0; have c1 := N2.c1; have c2 := N2.c2; have c3 := N2.c3; have c4 := N2.c4
    clear b2 N1
    go_wp2_with fail
    refine (refMExp_any A E M _ hM).mono ?_; rw [HR.out.1, HR.out.2.1]; rintro e w3 ⟨rfl, b3⟩
    replace hb := bbl hb b3
    have N3 := N2.below b3 N2.lt
    have c0 := N3.c0; have c1 := N3.c1; have c2 := N3.c2; have c3 := N3.c3; have c4 := N3.c4
    clear b3 N2
    go_wp2_with fail
    refine (Power_any A ng E M _).mono ?_; rw [HR.out.2.2.1, HR.out.2.2.2]; rintro e w2 ⟨rfl, b2⟩
    replace hb := bbl hb b2
    have N2 := N3.below b2 N3.lt
    have c0 := N2.c0; have c1 := N2.c1; have c2 := N2.c2; have c3 := N2.c3; have c4 := N2.c4
    clear b2 N3
    go_wp2_with fail
    refine (refPower_any A ng E M _ hM).mono ?_; rw [HR.out.2.2.1, HR.out.2.2.2]; rintro e w3 ⟨rfl, b3⟩
    replace hb := bbl hb b3
    clear b3 N2
    go_wp2_with fail
    refine (awakeM _).mono ?_; rintro e w4 ⟨rfl, b4⟩
    replace hb := bbl hb b4
    clear b4
    go_wp2_with fail
    go_ret
    exact ⟨rfl, hb⟩
  · have hf' : fewB A B E M = false := by simpa using hf
    have HF := Lib.hid hf'
    clear hf hf'
    go_enter Tryz.func4, Tryz.ntmps4
    go_wp2_with fail
    generalize w.alloc _ = w0 at hN hb ⊢
    refine (few_any A B ng E M _).mono ?_; rw [HF.out]; rintro e w1 ⟨rfl, b1⟩
    replace hb := bbl hb b1
    go_wp2_with fail
    refine (awakeM _).mono ?_; rintro e w2 ⟨rfl, b2⟩
    replace hb := bbl hb b2
    go_wp2_with fail
    go_ret
    exact ⟨rfl, hb⟩
namespace Num
theorem invm_back {a m : Nat} (hm : 0 < m) (h : Nat.gcd a m = 1) : Nat.gcd (invm a m) m = 1 ∧ invm (invm a m) m = a % m := by
  obtain ⟨h1, h2⟩ := invm_ok hm h
  have hg : Nat.gcd (invm a m) m = 1 := by
    have hd : Nat.gcd (invm a m) m ∣ a * invm a m := Nat.dvd_trans (Nat.gcd_dvd_left _ _) (Nat.dvd_mul_left _ _)
    have hm' := Nat.gcd_dvd_right (invm a m) m
    have h3 : Nat.gcd (invm a m) m ∣ a * invm a m % m := (Nat.dvd_mod_iff hm').2 hd
    rw [h2] at h3
    have h4 : Nat.gcd (invm a m) m ∣ 1 := (Nat.dvd_mod_iff hm').1 h3
    exact Nat.dvd_one.1 h4
  refine ⟨hg, invm_uniq (Nat.mod_lt _ hm) ?_⟩
  rw [Nat.mul_mod_mod, Nat.mul_comm]
  exact h2
end Num
theorem ivE_yes {A M : ByteArray} (h0 : chk [A] [M] = 0) (hg : Nat.gcd (nv A) (nv M) = 1) : ivE A M = 0 := by unfold ivE; rw [if_pos h0, if_pos hg]
theorem ivE_no {A M : ByteArray} (h0 : chk [A] [M] = 0) (hg : Nat.gcd (nv A) (nv M) ≠ 1) : ivE A M = 9 := by unfold ivE; rw [if_pos h0, if_neg hg]
theorem ivE_is {A M : ByteArray} : ivE A M = 0 ∨ ivE A M = 3 ∨ ivE A M = 9 ∨ ivE A M = 11 := by
  by_cases h0 : chk [A] [M] = 0
  · by_cases hg : Nat.gcd (nv A) (nv M) = 1
    · rw [ivE_yes h0 hg]; decide
    · rw [ivE_no h0 hg]; decide
  · have e1 : ivE A M = chk [A] [M] := by unfold ivE; rw [if_neg h0]
    rw [e1]
    rcases (chk_cases [A] [M]).resolve_left h0 with h | h <;> rw [h] <;> decide
theorem ivE_ok {A M : ByteArray} (h : ivE A M = 0) : IsN A (nv A) ∧ IsN M (nv M) ∧ 0 < nv M ∧ Nat.gcd (nv A) (nv M) = 1 := by
  by_cases h0 : chk [A] [M] = 0
  · obtain ⟨a, b, c⟩ := chk11_inv h0
    by_cases hg : Nat.gcd (nv A) (nv M) = 1
    · exact ⟨a, b, c, hg⟩
    · rw [ivE_no h0 hg] at h; cases h
  · have e1 : ivE A M = chk [A] [M] := by unfold ivE; rw [if_neg h0]
    exact absurd (e1.symm.trans h) h0
theorem num1 (w : World) : Calls Tryz.prog 11 #[.int .u64 1] w fun e w' => e = .returned (.string (enc 1)) ∧ Below w.heap.size w w' := num_any 1 w (by decide)
theorem NB.drew {W : World} {b : Nat} {A B : ByteArray} {ng : Bool} {E M : ByteArray} (h : NB W b A B ng E M) : NB W.drew b A B ng E M := h
theorem keepNB {w w1 w2 : World} {A B : ByteArray} {ng : Bool} {E M : ByteArray} (h : w1.cell? ⟨w.heap.size, 0, none⟩ = some (.string A) ∧ w1.cell? ⟨w.heap.size, 4, none⟩ = some (.string M) ∧ NB w1 w.heap.size A B ng E M ∧ Below w.heap.size w w1) (b : Below w1.heap.size w1 w2) :
    w2.cell? ⟨w.heap.size, 0, none⟩ = some (.string A) ∧ w2.cell? ⟨w.heap.size, 4, none⟩ = some (.string M) ∧ NB w2 w.heap.size A B ng E M ∧ Below w.heap.size w w2 :=
  have N := h.2.2.1.below b h.2.2.1.lt
  ⟨N.c0, N.c4, N, bbl h.2.2.2 b⟩
set_option maxHeartbeats 8000000 in
theorem inverts_core (A B : ByteArray) (ng : Bool) (E M S0 S1 S2 S3 : ByteArray) (w : World) (hf : fewB A B E M = true)
    (h1 : ∀ w, Calls Tryz.prog 7 #[.string A, .string M] w fun e w' => e = .returned (.tuple #[.string S1, .int .i64 0]) ∧ Below w.heap.size w w')
    (h2 : ∀ w, Calls Tryz.prog 8 #[.string A, .string M] w fun e w' => e = .returned (.tuple #[.string S1, .int .i64 0]) ∧ Below w.heap.size w w')
    (h3 : ∀ w, Calls Tryz.prog 9 #[.string A, .string S1, .string M] w fun e w' => e = .returned (.tuple #[.string S2, .int .i64 0]) ∧ Below w.heap.size w w')
    (h4 : ∀ w, Calls Tryz.prog 7 #[.string S1, .string M] w fun e w' => e = .returned (.tuple #[.string S3, .int .i64 0]) ∧ Below w.heap.size w w')
    (h5 : ∀ w, Calls Tryz.prog 11 #[.int .u64 1] w fun e w' => e = .returned (.string S0) ∧ Below w.heap.size w w')
    (h6 : ∀ w, Calls Tryz.prog 10 #[.string S0, .string M] w fun e w' => e = .returned (.string S2) ∧ Below w.heap.size w w')
    (h7 : ∀ w, Calls Tryz.prog 10 #[.string A, .string M] w fun e w' => e = .returned (.string S3) ∧ Below w.heap.size w w') :
    Calls Tryz.prog 3 #[.agg #[.string A, .string B, .bool ng, .string E, .string M]] w fun e w' => e = .returned (.bool true) ∧ Below w.heap.size w w' := by
  have hb := (Below.refl _ w).alloc (Nat.le_refl _) (.cells #[.string A, .string B, .bool ng, .string E, .string M] 26)
  have hN := NB.new w A B ng E M
  have HF := Lib.hid hf
  have H1 := Lib.hid h1
  have H2 := Lib.hid h2
  have H3 := Lib.hid h3
  have H4 := Lib.hid h4
  have H5 := Lib.hid h5
  have H6 := Lib.hid h6
  have H7 := Lib.hid h7
  clear hf h1 h2 h3 h4 h5 h6 h7
  go_enter Tryz.func3, Tryz.ntmps3
  go_wp2_with fail
  generalize w.alloc _ = w0 at hN hb ⊢
  refine (few_any A B ng E M _).mono ?_; rw [HF.out]; rintro e w1 ⟨rfl, b1⟩
  have N1 := hN.below b1 hN.lt
  replace hb := bbl hb b1
  have c0 := N1.c0; have c4 := N1.c4
  clear b1 hN
  go_wp2_with fail
  refine (H1.out _).mono ?_; rintro e w2 ⟨rfl, b2⟩
  replace hb := bbl hb b2
  have N2 := N1.below b2 N1.lt
  clear b2 N1 c0 c4
  have c0 := N2.c0; have c4 := N2.c4
  go_wp2_with fail
  refine (H2.out _).mono ?_; rintro e w2 ⟨rfl, b2⟩
  replace hb := bbl hb b2
  have N1 := N2.below b2 N2.lt
  clear b2 N2 c0 c4
  have c0 := N1.c0; have c4 := N1.c4
  go_wp2_with fail
  refine (H3.out _).mono ?_; rintro e w2 ⟨rfl, b2⟩
  replace hb := bbl hb b2
  have N2 := N1.below b2 N1.lt
  clear b2 N1 c0 c4
  have c0 := N2.c0; have c4 := N2.c4
  go_wp2_with fail
  refine (H4.out _).mono ?_; rintro e w2 ⟨rfl, b2⟩
  replace hb := bbl hb b2
  have N1 := N2.below b2 N2.lt
  clear b2 N2 c0 c4
  have c0 := N1.c0; have c4 := N1.c4
  clear H1 H2 H3 H4 HF
  go_wp2_with fail
  go_region_held3 (fun w' => w'.cell? ⟨w.heap.size, 0, none⟩ = some (.string A) ∧ w'.cell? ⟨w.heap.size, 4, none⟩ = some (.string M) ∧ NB w' w.heap.size A B ng E M ∧ Below w.heap.size w w')
    (first
      | exact ⟨c0, c4, N1, hb.drew⟩
      | (refine keepNB ?_ bn; assumption))
    (first
      | (go_at_call 6; (with_reducible refine (awakeM _).mono ?_); rintro e wn ⟨rfl, bn⟩)
      | (go_at_call 11; (with_reducible refine (H5.out _).mono ?_); rintro e wn ⟨rfl, bn⟩)
      | (go_at_call 10; (with_reducible refine (H6.out _).mono ?_); rintro e wn ⟨rfl, bn⟩)
      | (go_at_call 10; (with_reducible refine (H7.out _).mono ?_); rintro e wn ⟨rfl, bn⟩))
  all_goals
    go_split_ands
    go_wp2_with fail
    go_ret
    exact ⟨rfl, by assumption⟩
theorem inverts_ok (A B : ByteArray) (ng : Bool) (E M : ByteArray) (w : World) (a m : Nat) (hf : fewB A B E M = true) (hA : IsN A a) (hM : IsN M m) (h0 : 0 < m) (hg : Nat.gcd a m = 1) :
    Calls Tryz.prog 3 #[.agg #[.string A, .string B, .bool ng, .string E, .string M]] w fun e w' => e = .returned (.bool true) ∧ Below w.heap.size w w' := by
  have h64 : M.size ≤ 64 := by have := of_decide_eq_true hf; omega
  have hi := invm_ok h0 hg
  have hbk := invm_back h0 hg
  have HI := IsN.mk' (Nat.le_trans (blen_mono (Nat.le_of_lt hi.1)) hM.le)
  have HO := IsN.mk' (show blen 1 ≤ 128 by decide)
  have hri := refInverse_any A M
  have hE : ivE A M = 0 := ivE_yes (chk11 hA hM h0) (by rw [hA.nv, hM.nv]; exact hg)
  rw [ivS, hE, mo_zero, hA.nv, hM.nv] at hri
  have hmm := fun w => refMMul_any A (enc (invm a m)) M w h64
  rw [chk21 hA HI hM h0, mo_zero, hA.nv, hM.nv, HI.nv, hi.2] at hmm
  have h4 := fun w => Inverse_yes (enc (invm a m)) M (invm a m) m w HI hM h0 hbk.1
  rw [hbk.2] at h4
  exact inverts_core A B ng E M (enc 1) (enc (invm a m)) (enc (1 % m)) (enc (a % m)) w hf (fun w => Inverse_yes A M a m w hA hM h0 hg) hri hmm h4 num1 (fun w => refMod_any _ _ 1 m w HO hM h0) (fun w => refMod_any _ _ a m w hA hM h0)
set_option maxHeartbeats 4000000 in
theorem inverts_walk (A B : ByteArray) (ng : Bool) (E M : ByteArray) (w : World) :
    Calls Tryz.prog 3 #[.agg #[.string A, .string B, .bool ng, .string E, .string M]] w fun e w' => e = .returned (.bool true) ∧ Below w.heap.size w w' := by
  by_cases hf : fewB A B E M = true
  · by_cases h0 : ivE A M = 0
    · obtain ⟨h1, h2, h3, h4⟩ := ivE_ok h0
      exact inverts_ok A B ng E M w _ _ hf h1 h2 h3 h4
    have hb := (Below.refl _ w).alloc (Nat.le_refl _) (.cells #[.string A, .string B, .bool ng, .string E, .string M] 26)
    have hN := NB.new w A B ng E M
    have HF := Lib.hid hf
    have hk := ivE_is (A := A) (M := M)
    have hi := Inverse_any A M
    have hj := refInverse_any A M
    rw [ivS, mo_bad h0] at hi hj
    clear hf
    have HI := Lib.hid hi
    have HJ := Lib.hid hj
    clear hi hj
    rcases hk.resolve_left h0 with hk | hk | hk
    all_goals
      rw [hk] at HI HJ
      clear hk h0
      go_enter Tryz.func3, Tryz.ntmps3
      go_wp2_with fail
      generalize w.alloc _ = w0 at hN hb ⊢
      refine (few_any A B ng E M _).mono ?_; rw [HF.out]; rintro e w1 ⟨rfl, b1⟩
      have N1 := hN.below b1 hN.lt
      replace hb := bbl hb b1
      have c0 := N1.c0; have c4 := N1.c4
      clear b1 hN
      go_wp2_with fail
      refine (HI.out _).mono ?_; rintro e w2 ⟨rfl, b2⟩
      replace hb := bbl hb b2
      have N2 := N1.below b2 N1.lt
      clear b2 N1 c0 c4
      have c0 := N2.c0; have c4 := N2.c4
      go_wp2_with fail
      refine (HJ.out _).mono ?_; rintro e w2 ⟨rfl, b2⟩
      replace hb := bbl hb b2
      clear b2 N2 c0 c4
      go_wp2_with fail
      refine (awakeM _).mono ?_; rintro e w4 ⟨rfl, b4⟩
      replace hb := bbl hb b4
      clear b4
      go_wp2_with fail
      go_ret
      exact ⟨rfl, hb⟩
  · have hf' : fewB A B E M = false := by simpa using hf
    have HF := Lib.hid hf'
    clear hf hf'
    have hb := (Below.refl _ w).alloc (Nat.le_refl _) (.cells #[.string A, .string B, .bool ng, .string E, .string M] 26)
    have hN := NB.new w A B ng E M
    go_enter Tryz.func3, Tryz.ntmps3
    go_wp2_with fail
    generalize w.alloc _ = w0 at hN hb ⊢
    refine (few_any A B ng E M _).mono ?_; rw [HF.out]; rintro e w1 ⟨rfl, b1⟩
    replace hb := bbl hb b1
    go_wp2_with fail
    refine (awakeM _).mono ?_; rintro e w2 ⟨rfl, b2⟩
    replace hb := bbl hb b2
    go_wp2_with fail
    go_ret
    exact ⟨rfl, hb⟩
end Go.Proofs.YtoocpmmgoljncaaGreat
