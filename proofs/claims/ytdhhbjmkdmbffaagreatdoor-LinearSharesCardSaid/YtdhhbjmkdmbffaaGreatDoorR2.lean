/- The reference of layer 2: Make, Valid, From, Neg, Of, Add, Sub, Mul where the result fits. -/
import Derived.Test.YtdhhbjmkdmbffaaGreatDoorInt
import Derived.Test.YtdhhbjmkdmbffaaGreatDoorRfA
import Derived.Test.YtdhhbjmkdmbffaaGreatDoorInv
namespace Go.Proofs.YtdhhbjmkdmbffaaGreatDoor
open Go.RowKit Num
set_option maxRecDepth 20000
set_option linter.unusedVariables false
theorem refMake_any (b : Bool) (s : ByteArray) (w : World) :
    Calls Tryz.prog 124 #[.bool b, .string s] w fun e w' => e = .returned (.agg #[.bool (b && !s.toList.isEmpty), .string s]) ∧ Below w.heap.size w w' := by
  have r1 := RBox.new w
  have b1 := (Below.refl _ w).alloc (Nat.le_refl _) (.cells #[.bool false, .string ⟨#[]⟩] 36)
  obtain ⟨w1, hw1⟩ : ∃ w1, w.alloc (.cells #[.bool false, .string ⟨#[]⟩] 36) = w1 := ⟨_, rfl⟩
  rw [hw1] at r1 b1
  have f0 := r1.f0
  have f1 := r1.f1
  have c0 := r1.c0
  have c1 := r1.c1
  cases b
  · go_enter Tryz.func124, Tryz.ntmps124
    go_wp2_with fail
    refine bodyPost_int rfl rfl (put2 r1) rfl ⟨rfl, ?_⟩
    exact (b1.setCell (p := ⟨w.heap.size, 0, none⟩) (Nat.le_refl _) _).setCell (p := ⟨w.heap.size, 1, none⟩) (Nat.le_refl _) _
  · go_enter Tryz.func124, Tryz.ntmps124
    go_wp2_with fail
    refine bodyPost_int rfl rfl (put2 r1) rfl ⟨rfl, ?_⟩
    exact (b1.setCell (p := ⟨w.heap.size, 0, none⟩) (Nat.le_refl _) _).setCell (p := ⟨w.heap.size, 1, none⟩) (Nat.le_refl _) _
theorem ref2Valid_any (b : Bool) (s : ByteArray) (w : World) :
    Calls Tryz.prog 94 #[.agg #[.bool b, .string s]] w fun e w' => e = .returned (.bool (validB s && !(b && s.toList.isEmpty))) ∧ Below w.heap.size w w' := by
  have hb := (Below.refl _ w).alloc (Nat.le_refl _) (.cells #[.bool b, .string s] 36)
  by_cases hv : validB s = true
  · have HV := Lib.hid hv
    rw [hv, Bool.true_and]
    clear hv
    cases b
    · go_enter Tryz.func94, Tryz.ntmps94
      go_wp2_with fail
      refine (refValid_any _ _).mono ?_
      rintro e w1 ⟨rfl, rfl⟩
      rw [HV.out]
      go_wp2_with fail
      go_ret
      exact ⟨rfl, hb⟩
    · go_enter Tryz.func94, Tryz.ntmps94
      go_wp2_with fail
      refine (refValid_any _ _).mono ?_
      rintro e w1 ⟨rfl, rfl⟩
      rw [HV.out]
      go_wp2_with fail
      go_ret
      exact ⟨by simp, hb⟩
  · have hv' : validB s = false := by simpa using hv
    rw [hv', Bool.false_and]
    have HV := Lib.hid hv'
    clear hv hv'
    go_enter Tryz.func94, Tryz.ntmps94
    go_wp2_with fail
    refine (refValid_any _ _).mono ?_
    rintro e w1 ⟨rfl, rfl⟩
    rw [HV.out]
    go_wp2_with fail
    go_ret
    exact ⟨rfl, hb⟩
theorem ref2Valid_z (z : Int) (w : World) (h : ZOk z) :
    Calls Tryz.prog 94 #[.agg #[.bool (zb z), .string (zs z)]] w fun e w' => e = .returned (.bool true) ∧ Below w.heap.size w w' :=
  (ref2Valid_any _ _ w).mono fun e w' ⟨h1, h2⟩ => ⟨by rw [h1, h.isN.valid, zb_not]; rfl, h2⟩
theorem ref2Of_z (n : Nat) (w : World) (h : n < 9223372036854775808) :
    Calls Tryz.prog 80 #[.int .i64 (n : Int)] w fun e w' => e = .returned (.agg #[.bool (zb (n : Int)), .string (zs (n : Int))]) ∧ Below w.heap.size w w' := by
  have hz : zb (n : Int) = false := decide_eq_false (by omega)
  have hs : zs (n : Int) = enc n := rfl
  rw [hz, hs]
  clear hz hs
  have d1 : decide ((n : Int) < 0) = false := decide_eq_false (by omega)
  have w1' : IntKind.u64.wrap (n : Int) = (n : Int) := wraps_u64 _ (by omega) (by omega)
  go_enter Tryz.func80, Tryz.ntmps80
  go_wp2_with fail
  have r1 := RBox.new w
  have b1 := (Below.refl _ w).alloc (Nat.le_refl _) (.cells #[.bool false, .string ⟨#[]⟩] 36)
  generalize w.alloc _ = w1 at r1 b1 ⊢
  refine (refOf_any n _ (by omega)).mono ?_
  rintro e w2 ⟨rfl, b2⟩
  have r2 := r1.below b2 r1.lt
  replace b2 := b1.trans (b2.mono b1.size)
  go_wp2_with fail
  refine (refMake_any _ _ _).mono ?_
  rintro e w3 ⟨rfl, b3⟩
  have r3 := r2.below b3 r2.lt
  have f0 := r3.f0
  have f1 := r3.f1
  have c0 := r3.c0
  have c1 := r3.c1
  replace b3 := b2.trans (b3.mono b2.size)
  go_wp2_with fail
  refine bodyPost_int rfl rfl (put2 r3) rfl ⟨rfl, ?_⟩
  exact (b3.setCell (p := ⟨w.heap.size, 0, none⟩) (Nat.le_refl _) _).setCell (p := ⟨w.heap.size, 1, none⟩) (Nat.le_refl _) _
theorem refCmp_any (s t : ByteArray) (a b : Nat) (w : World) (hs : IsN s a) (ht : IsN t b) :
    Calls Tryz.prog 47 #[.string s, .string t] w fun e w' => e = .returned (.int .i64 (ncmp a b)) ∧ Below w.heap.size w w' := by
  have v1 := hs.valid
  have v2 := ht.valid
  have z1 := hs.small
  have z2 := ht.small
  have HS := Lib.hid hs.eq; clear hs
  have HT := Lib.hid ht.eq; clear ht
  go_enter Tryz.func47, Tryz.ntmps47
  go_wp2_with fail
  refine (refValid_any _ _).mono ?_; rw [v1]; rintro e w' ⟨rfl, rfl⟩
  go_wp2_with fail
  refine (refValid_any _ _).mono ?_; rw [v2]; rintro e w' ⟨rfl, rfl⟩
  go_wp2_with fail
  refine (refOrder_any s t a b _ HS.out HT.out (by omega) (by omega)).mono ?_; rintro e w1 ⟨rfl, hb1⟩
  go_wp2_with fail
  go_ret
  exact ⟨rfl, hb1⟩
end Go.Proofs.YtdhhbjmkdmbffaaGreatDoor
