/- The laws of layer 3: Jacobis, Ring. -/
import Derived.Test.YtoocpmmgoljncaaMLaw
namespace Go.Proofs.Ytoocpmmgoljncaa
open Go.RowKit Num
set_option maxRecDepth 20000
set_option linter.unusedVariables false
set_option maxHeartbeats 4000000 in
theorem jacobis_walk (a n : ByteArray) (w : World) (ha : a.size ≤ maxLen) (hn : n.size ≤ maxLen) :
    Calls Try.prog 4 #[.string a, .string n] w fun e w' => e = .returned (.bool true) ∧ Below w.heap.size w w' := by
  unfold maxLen at ha hn
  by_cases h1 : a.size ≤ 24
  · by_cases h2 : n.size ≤ 12
    · obtain ⟨c, hc⟩ : ∃ c, jcE a n = c := ⟨_, rfl⟩
      obtain ⟨j, hj⟩ : ∃ c, jcV a n = c := ⟨_, rfl⟩
      have HC := Lib.hid (And.intro hc hj)
      clear hc hj
      go_enter Try.func4, Try.ntmps4
      go_wp2_with fail
      refine (Jacobi_any a n _).mono ?_; rw [HC.out.1, HC.out.2]; rintro e w1 ⟨rfl, hb⟩
      go_wp2_with fail
      refine (refJacobi_any a n _).mono ?_; rw [HC.out.1, HC.out.2]; rintro e w2 ⟨rfl, hb2⟩
      replace hb := bbl hb hb2
      go_wp2_with fail
      refine (awakeM _).mono ?_; rintro e w2 ⟨rfl, b2⟩
      replace hb := bbl hb b2
      go_wp2_with fail
      go_ret
      exact ⟨rfl, hb⟩
    · go_enter Try.func4, Try.ntmps4
      go_wp2_with fail
      refine (awakeM _).mono ?_; rintro e w2 ⟨rfl, b2⟩
      go_wp2_with fail
      go_ret
      exact ⟨rfl, b2⟩
  · go_enter Try.func4, Try.ntmps4
    go_wp2_with fail
    refine (awakeM _).mono ?_; rintro e w2 ⟨rfl, b2⟩
    go_wp2_with fail
    go_ret
    exact ⟨rfl, b2⟩
namespace Num
theorem ring_back {a b m : Nat} (h0 : 0 < m) : ((a + b) % m + (m - b % m)) % m = a % m := by
  have h := Nat.mod_lt b h0
  rw [Nat.mod_add_mod]
  have e : a + b + (m - b % m) = a + m * (b / m + 1) := by have := Nat.div_add_mod b m; rw [Nat.mul_add]; omega
  rw [e, Nat.add_mul_mod_self_left]
theorem ring_dist {x a b m : Nat} : (x * a % m + x * b % m) % m = x * ((a + b) % m) % m := by
  rw [Nat.mul_mod_mod, Nat.mul_add, ← Nat.add_mod]
theorem ring_assoc {x a b m : Nat} : x * a % m * b % m = x * (a * b % m) % m := by
  rw [Nat.mul_mod_mod, Nat.mod_mul_mod, Nat.mul_assoc]
end Num
theorem valid_no {s : ByteArray} (h : ¬ validB s = true) : validB s = false := by simpa using h
set_option maxHeartbeats 8000000 in
theorem ring_ok (a b A B : ByteArray) (ng : Bool) (E M : ByteArray) (w : World) (x y z m : Nat) (ha : IsN a x) (hb' : IsN b y) (hA : IsN A z) (hM : IsN M m) (h0 : 0 < m) (hf : fewB A B E M = true) (l1 : a.size ≤ 24) (l2 : b.size ≤ 24) :
    Calls Try.prog 7 #[.string a, .string b, .agg #[.string A, .string B, .bool ng, .string E, .string M]] w fun e w' => e = .returned (.bool true) ∧ Below w.heap.size w w' := by
  have hb := (Below.refl _ w).alloc (Nat.le_refl _) (.cells #[.string A, .string B, .bool ng, .string E, .string M] 41)
  have hN := NB.new w A B ng E M
  have v1 := ha.valid
  have v2 := hb'.valid
  have v3 := hA.valid
  have v4 := hM.valid
  obtain ⟨n1, n2⟩ := toList_ne (hM.pos h0)
  have HX := Lib.hid ha
  have HY := Lib.hid hb'
  have HZ := Lib.hid hA
  have HM := Lib.hid hM
  have HF := Lib.hid hf
  have k1 : (y + x) % m = (x + y) % m := by rw [Nat.add_comm]
  have k2 := ring_back (a := x) (b := y) h0
  have k3 : y * x % m = x * y % m := by rw [Nat.mul_comm]
  have k4 := ring_dist (x := z) (a := x) (b := y) (m := m)
  have k5 := ring_assoc (x := z) (a := x) (b := y) (m := m)
  have m1 := IsN.mk' (mod_le (a := x + y) hM h0)
  have m2 := IsN.mk' (mod_le (a := x * y) hM h0)
  have m3 := IsN.mk' (mod_le (a := z * x) hM h0)
  have m4 := IsN.mk' (mod_le (a := z * y) hM h0)
  have K := Lib.hid (And.intro k1 (And.intro k2 (And.intro k3 (And.intro k4 k5))))
  have MM := Lib.hid (And.intro m1 (And.intro m2 (And.intro m3 m4)))
  clear ha hb' hA hM hf k1 k2 k3 k4 k5 m1 m2 m3 m4
  go_enter Try.func7, Try.ntmps7
  go_wp2_with fail
  generalize w.alloc _ = w0 at hN hb ⊢
  refine (few_any A B ng E M _).mono ?_; rw [HF.out]; rintro e w1 ⟨rfl, b1⟩
  have N1 := hN.below b1 hN.lt
  replace hb := bbl hb b1
  have c0 := N1.c0; have c4 := N1.c4
  clear b1 hN
  go_wp2_with fail
  refine (refValid_any _ _).mono ?_; rw [v1]; rintro e w' ⟨rfl, rfl⟩
  go_wp2_with fail
  refine (refValid_any _ _).mono ?_; rw [v2]; rintro e w' ⟨rfl, rfl⟩
  go_wp2_with fail
  refine (refValid_any _ _).mono ?_; rw [v3]; rintro e w' ⟨rfl, rfl⟩
  go_wp2_with fail
  refine (refValid_any _ _).mono ?_; rw [v4]; rintro e w' ⟨rfl, rfl⟩
  clear v1 v2 v3 v4
  go_wp2_with fail
  refine (ModAdd_ok _ _ _ x y m _ HX.out HY.out HM.out h0).mono ?_; rintro e w2 ⟨rfl, b2⟩
  replace hb := bbl hb b2
  have N2 := N1.below b2 N1.lt
  clear b2 N1 c0 c4 n1 n2
  have c0 := N2.c0; have c4 := N2.c4
  go_wp2_with fail
  refine (ModAdd_ok _ _ _ y x m _ HY.out HX.out HM.out h0).mono ?_; rw [K.out.1]; rintro e w2 ⟨rfl, b2⟩
  replace hb := bbl hb b2
  have N1 := N2.below b2 N2.lt
  clear b2 N2 c0 c4
  have c0 := N1.c0; have c4 := N1.c4
  go_wp2_with fail
  refine (ModSub_ok _ _ _ ((x + y) % m) y m _ MM.out.1 HY.out HM.out h0).mono ?_; rw [K.out.2.1]; rintro e w2 ⟨rfl, b2⟩
  replace hb := bbl hb b2
  have N2 := N1.below b2 N1.lt
  clear b2 N1 c0 c4
  have c0 := N2.c0; have c4 := N2.c4
  go_wp2_with fail
  refine (ModMul_ok _ _ _ x y m _ HX.out HY.out HM.out h0).mono ?_; rintro e w2 ⟨rfl, b2⟩
  replace hb := bbl hb b2
  have N1 := N2.below b2 N2.lt
  clear b2 N2 c0 c4
  have c0 := N1.c0; have c4 := N1.c4
  go_wp2_with fail
  refine (ModMul_ok _ _ _ y x m _ HY.out HX.out HM.out h0).mono ?_; rw [K.out.2.2.1]; rintro e w2 ⟨rfl, b2⟩
  replace hb := bbl hb b2
  have N2 := N1.below b2 N1.lt
  clear b2 N1 c0 c4
  have c0 := N2.c0; have c4 := N2.c4
  go_wp2_with fail
  refine (ModMul_ok _ _ _ z ((x + y) % m) m _ HZ.out MM.out.1 HM.out h0).mono ?_; rintro e w2 ⟨rfl, b2⟩
  replace hb := bbl hb b2
  have N1 := N2.below b2 N2.lt
  clear b2 N2 c0 c4
  have c0 := N1.c0; have c4 := N1.c4
  go_wp2_with fail
  refine (ModMul_ok _ _ _ z x m _ HZ.out HX.out HM.out h0).mono ?_; rintro e w2 ⟨rfl, b2⟩
  replace hb := bbl hb b2
  have N2 := N1.below b2 N1.lt
  clear b2 N1 c0 c4
  have c0 := N2.c0; have c4 := N2.c4
  go_wp2_with fail
  refine (ModMul_ok _ _ _ z y m _ HZ.out HY.out HM.out h0).mono ?_; rintro e w2 ⟨rfl, b2⟩
  replace hb := bbl hb b2
  have N1 := N2.below b2 N2.lt
  clear b2 N2 c0 c4
  have c0 := N1.c0; have c4 := N1.c4
  go_wp2_with fail
  refine (ModAdd_ok _ _ _ (z * x % m) (z * y % m) m _ MM.out.2.2.1 MM.out.2.2.2 HM.out h0).mono ?_; rw [K.out.2.2.2.1]; rintro e w2 ⟨rfl, b2⟩
  replace hb := bbl hb b2
  have N2 := N1.below b2 N1.lt
  clear b2 N1 c0 c4
  have c0 := N2.c0; have c4 := N2.c4
  go_wp2_with fail
  refine (ModMul_ok _ _ _ z (x * y % m) m _ HZ.out MM.out.2.1 HM.out h0).mono ?_; rintro e w2 ⟨rfl, b2⟩
  replace hb := bbl hb b2
  clear b2 N2 c0 c4
  go_wp2_with fail
  refine (ModMul_ok _ _ _ (z * x % m) y m _ MM.out.2.2.1 HY.out HM.out h0).mono ?_; rw [K.out.2.2.2.2]; rintro e w2 ⟨rfl, b2⟩
  replace hb := bbl hb b2
  clear b2
  go_wp2_with fail
  refine (awakeM _).mono ?_; rintro e w2 ⟨rfl, b2⟩
  replace hb := bbl hb b2
  have e0 := enc_same' (x % m)
  go_wp2_with fail
  refine (refMod_any _ _ x m _ HX.out HM.out h0).mono ?_; rintro e w2 ⟨rfl, b3⟩
  replace hb := bbl hb b3
  clear b2 b3
  go_wp2_with fail
  go_ret
  exact ⟨rfl, hb⟩
end Go.Proofs.Ytoocpmmgoljncaa
