/- The reference of layer 2: Make, Valid, From, Neg, Of, Add, Sub, Mul where the result fits. -/
import Derived.Test.YtcbamkgomnhdbaaGreatDoorInt
import Derived.Test.YtcbamkgomnhdbaaGreatDoorRfA
import Derived.Test.YtcbamkgomnhdbaaGreatDoorInv
namespace Go.Proofs.YtcbamkgomnhdbaaGreatDoor
open Go.RowKit Num
set_option maxRecDepth 20000
set_option linter.unusedVariables false
theorem refMake_any (b : Bool) (s : ByteArray) (w : World) :
    Calls Tryz.prog 47 #[.bool b, .string s] w fun e w' => e = .returned (.agg #[.bool (b && !s.toList.isEmpty), .string s]) ∧ Below w.heap.size w w' := by
  have r1 := RBox.new w
  have b1 := (Below.refl _ w).alloc (Nat.le_refl _) (.cells #[.bool false, .string ⟨#[]⟩] 54)
  obtain ⟨w1, hw1⟩ : ∃ w1, w.alloc (.cells #[.bool false, .string ⟨#[]⟩] 54) = w1 := ⟨_, rfl⟩
  rw [hw1] at r1 b1
  have f0 := r1.f0
  have f1 := r1.f1
  have c0 := r1.c0
  have c1 := r1.c1
  cases b
  · go_enter Tryz.func47, Tryz.ntmps47
    go_wp2_with fail
    refine bodyPost_int rfl rfl (put2 r1) rfl ⟨rfl, ?_⟩
    exact (b1.setCell (p := ⟨w.heap.size, 0, none⟩) (Nat.le_refl _) _).setCell (p := ⟨w.heap.size, 1, none⟩) (Nat.le_refl _) _
  · go_enter Tryz.func47, Tryz.ntmps47
    go_wp2_with fail
    refine bodyPost_int rfl rfl (put2 r1) rfl ⟨rfl, ?_⟩
    exact (b1.setCell (p := ⟨w.heap.size, 0, none⟩) (Nat.le_refl _) _).setCell (p := ⟨w.heap.size, 1, none⟩) (Nat.le_refl _) _
theorem ref2Valid_any (b : Bool) (s : ByteArray) (w : World) :
    Calls Tryz.prog 45 #[.agg #[.bool b, .string s]] w fun e w' => e = .returned (.bool (validB s && !(b && s.toList.isEmpty))) ∧ Below w.heap.size w w' := by
  have hb := (Below.refl _ w).alloc (Nat.le_refl _) (.cells #[.bool b, .string s] 54)
  by_cases hv : validB s = true
  · have HV := Lib.hid hv
    rw [hv, Bool.true_and]
    clear hv
    cases b
    · go_enter Tryz.func45, Tryz.ntmps45
      go_wp2_with fail
      refine (refValid_any _ _).mono ?_
      rintro e w1 ⟨rfl, rfl⟩
      rw [HV.out]
      go_wp2_with fail
      go_ret
      exact ⟨rfl, hb⟩
    · go_enter Tryz.func45, Tryz.ntmps45
      go_wp2_with fail
      refine (refValid_any _ _).mono ?_
      rintro e w1 ⟨rfl, rfl⟩
      rw [HV.out]
      go_wp2_with fail
      go_ret
      exact ⟨by simp, hb⟩
  · have hv' : validB s = false := by simpa using hv
    rw [hv', Bool.false_and]
    have HV := Lib.hid hv'
    clear hv hv'
    go_enter Tryz.func45, Tryz.ntmps45
    go_wp2_with fail
    refine (refValid_any _ _).mono ?_
    rintro e w1 ⟨rfl, rfl⟩
    rw [HV.out]
    go_wp2_with fail
    go_ret
    exact ⟨rfl, hb⟩
theorem ref2Valid_z (z : Int) (w : World) (h : ZOk z) :
    Calls Tryz.prog 45 #[.agg #[.bool (zb z), .string (zs z)]] w fun e w' => e = .returned (.bool true) ∧ Below w.heap.size w w' :=
  (ref2Valid_any _ _ w).mono fun e w' ⟨h1, h2⟩ => ⟨by rw [h1, h.isN.valid, zb_not]; rfl, h2⟩
theorem ref2From_z (a : Nat) (w : World) (h : blen a ≤ 128) :
    Calls Tryz.prog 203 #[.string (enc a)] w fun e w' => e = .returned (.agg #[.bool (zb (a : Int)), .string (zs (a : Int))]) ∧ Below w.heap.size w w' := by
  have HV := Lib.hid (IsN.mk' h)
  have hz : zb (a : Int) = false := decide_eq_false (by omega)
  have hs : zs (a : Int) = enc a := rfl
  rw [hz, hs]
  clear hz hs
  go_enter Tryz.func203, Tryz.ntmps203
  go_wp2_with fail
  have r1 := RBox.new w
  have b1 := (Below.refl _ w).alloc (Nat.le_refl _) (.cells #[.bool false, .string ⟨#[]⟩] 54)
  generalize w.alloc _ = w1 at r1 b1 ⊢
  refine (refValid_any _ _).mono ?_; rw [HV.out.valid]
  rintro e w2 ⟨rfl, rfl⟩
  go_wp2_with fail
  refine (refMake_any _ _ _).mono ?_
  rintro e w3 ⟨rfl, b3⟩
  have r3 := r1.below b3 r1.lt
  have f0 := r3.f0
  have f1 := r3.f1
  have c0 := r3.c0
  have c1 := r3.c1
  go_wp2_with fail
  refine bodyPost_int rfl rfl (put2 r3) rfl ⟨rfl, ?_⟩
  exact ((b1.trans (b3.mono b1.size)).setCell (p := ⟨w.heap.size, 0, none⟩) (Nat.le_refl _) _).setCell (p := ⟨w.heap.size, 1, none⟩) (Nat.le_refl _) _
theorem ref2Neg_z (z : Int) (w : World) (h : ZOk z) :
    Calls Tryz.prog 205 #[.agg #[.bool (zb z), .string (zs z)]] w fun e w' => e = .returned (.agg #[.bool (zb (-z)), .string (zs (-z))]) ∧ Below w.heap.size w w' := by
  have HZ := Lib.hid h
  have HM := Lib.hid (neg_made z)
  clear h
  go_enter Tryz.func205, Tryz.ntmps205
  go_wp2_with fail
  have r1 := RBox.new (w.alloc (.cells #[.bool (zb z), .string (zs z)] 54))
  have x1 := (ZBox.new w z).alloc (.cells #[.bool false, .string ⟨#[]⟩] 54)
  have b1 := ((Below.refl _ w).alloc (Nat.le_refl _) (.cells #[.bool (zb z), .string (zs z)] 54)).alloc (by simp) (.cells #[.bool false, .string ⟨#[]⟩] 54)
  rw [World.size_alloc] at r1
  generalize World.alloc _ _ = w1 at r1 x1 b1 ⊢
  refine (ref2Valid_z z _ HZ.out).mono ?_
  rintro e w2 ⟨rfl, b2⟩
  have x2 := x1.below b2 x1.lt
  have r2 := r1.below b2 r1.lt
  replace b2 := b1.trans (b2.mono b1.size)
  have c0 := x2.c0
  have c1 := x2.c1
  clear x1 r1 b1
  go_wp2_with fail
  refine (refMake_any _ _ _).mono ?_
  rw [HM.out.1, HM.out.2]
  rintro e w3 ⟨rfl, b3⟩
  have r3 := r2.below b3 r2.lt
  have f0 := r3.f0
  have f1 := r3.f1
  have d0 := r3.c0
  have d1 := r3.c1
  replace b3 := b2.trans (b3.mono b2.size)
  go_wp2_with fail
  refine bodyPost_int rfl rfl (put2 r3) rfl ⟨rfl, ?_⟩
  exact (b3.setCell (p := ⟨w.heap.size + 1, 0, none⟩) (by simp) _).setCell (p := ⟨w.heap.size + 1, 1, none⟩) (by simp) _
theorem ref2Of_z (n : Nat) (w : World) (h : n < 9223372036854775808) :
    Calls Tryz.prog 56 #[.int .i64 (n : Int)] w fun e w' => e = .returned (.agg #[.bool (zb (n : Int)), .string (zs (n : Int))]) ∧ Below w.heap.size w w' := by
  have hz : zb (n : Int) = false := decide_eq_false (by omega)
  have hs : zs (n : Int) = enc n := rfl
  rw [hz, hs]
  clear hz hs
  have d1 : decide ((n : Int) < 0) = false := decide_eq_false (by omega)
  have w1' : IntKind.u64.wrap (n : Int) = (n : Int) := wraps_u64 _ (by omega) (by omega)
  go_enter Tryz.func56, Tryz.ntmps56
  go_wp2_with fail
  have r1 := RBox.new w
  have b1 := (Below.refl _ w).alloc (Nat.le_refl _) (.cells #[.bool false, .string ⟨#[]⟩] 54)
  generalize w.alloc _ = w1 at r1 b1 ⊢
  refine (refOf_any n _ (by omega)).mono ?_
  rintro e w2 ⟨rfl, b2⟩
  have r2 := r1.below b2 r1.lt
  replace b2 := b1.trans (b2.mono b1.size)
  go_wp2_with fail
  refine (refMake_any _ _ _).mono ?_
  rintro e w3 ⟨rfl, b3⟩
  have r3 := r2.below b3 r2.lt
  have f0 := r3.f0
  have f1 := r3.f1
  have c0 := r3.c0
  have c1 := r3.c1
  replace b3 := b2.trans (b3.mono b2.size)
  go_wp2_with fail
  refine bodyPost_int rfl rfl (put2 r3) rfl ⟨rfl, ?_⟩
  exact (b3.setCell (p := ⟨w.heap.size, 0, none⟩) (Nat.le_refl _) _).setCell (p := ⟨w.heap.size, 1, none⟩) (Nat.le_refl _) _
theorem refCmp_any (s t : ByteArray) (a b : Nat) (w : World) (hs : IsN s a) (ht : IsN t b) :
    Calls Tryz.prog 20 #[.string s, .string t] w fun e w' => e = .returned (.int .i64 (ncmp a b)) ∧ Below w.heap.size w w' := by
  have v1 := hs.valid
  have v2 := ht.valid
  have z1 := hs.small
  have z2 := ht.small
  have HS := Lib.hid hs.eq; clear hs
  have HT := Lib.hid ht.eq; clear ht
  go_enter Tryz.func20, Tryz.ntmps20
  go_wp2_with fail
  refine (refValid_any _ _).mono ?_; rw [v1]; rintro e w' ⟨rfl, rfl⟩
  go_wp2_with fail
  refine (refValid_any _ _).mono ?_; rw [v2]; rintro e w' ⟨rfl, rfl⟩
  go_wp2_with fail
  refine (refOrder_any s t a b _ HS.out HT.out (by omega) (by omega)).mono ?_; rintro e w1 ⟨rfl, hb1⟩
  go_wp2_with fail
  go_ret
  exact ⟨rfl, hb1⟩
set_option maxHeartbeats 4000000 in
theorem ref2Add_same (x y : Int) (w : World) (hx : ZOk x) (hy : ZOk y) (hs : zb x = zb y) (hz : ZOk (x + y)) :
    Calls Tryz.prog 21 #[.agg #[.bool (zb x), .string (zs x)], .agg #[.bool (zb y), .string (zs y)]] w fun e w' => e = .returned (.tuple #[.agg #[.bool (zb (x + y)), .string (zs (x + y))], .int .i64 0]) ∧ Below w.heap.size w w' := by
  have HX := Lib.hid hx
  have HY := Lib.hid hy
  obtain ⟨q1, q2⟩ := sum_same hs
  have hq : blen (x.natAbs + y.natAbs) ≤ 128 := by rw [← q1]; exact hz
  have hzs : enc (x.natAbs + y.natAbs) = zs (x + y) := by rw [← q1]; rfl
  have HF := Lib.hid (And.intro (fit_ok hq) (And.intro hzs q2))
  have e1 : (zb x == zb y) = true := by rw [hs]; simp
  clear hx hy hs hz q1 q2 hq hzs
  obtain ⟨w1, hw1, bx, by', br, hs1, b1⟩ := box3 w x y
  have k0 := bx.c0
  have k1 := bx.c1
  have k2 := by'.c0
  have k3 := by'.c1
  go_enter Tryz.func21, Tryz.ntmps21
  go_wp2_with fail
  clear k0 k1 k2 k3
  refine (ref2Valid_z x _ HX.out).mono ?_
  rintro e w2 ⟨rfl, b2⟩
  have x1 := bx.below b2 bx.lt
  have y1 := by'.below b2 by'.lt
  have r1 := br.below b2 br.lt
  replace b2 := b1.trans (b2.mono b1.size)
  have k2 := y1.c0
  have k3 := y1.c1
  clear bx by' br b1 hs1 hw1
  go_wp2_with fail
  clear k2 k3
  refine (ref2Valid_z y _ HY.out).mono ?_
  rintro e w2' ⟨rfl, b2'⟩
  have x2 := x1.below b2' x1.lt
  have y2 := y1.below b2' y1.lt
  have r2 := r1.below b2' r1.lt
  replace b2 := b2.trans (b2'.mono b2.size)
  have c0 := x2.c0
  have c1 := x2.c1
  have c2 := y2.c0
  have c3 := y2.c1
  clear x1 y1 r1 b2'
  go_wp2_with fail
  refine (refAdd_any _ _ _ _ _ HX.out.isN HY.out.isN).mono ?_
  rw [HF.out.1.1, HF.out.1.2, HF.out.2.1]
  rintro e w3 ⟨rfl, b3⟩
  have x3 := x2.below b3 x2.lt
  have r3 := r2.below b3 r2.lt
  replace b3 := b2.trans (b3.mono b2.size)
  have a0 := x3.c0
  clear x2 y2 r2 b2 c0 c1 c2 c3
  go_wp2_with fail
  refine (refMake_any _ _ _).mono ?_
  rw [HF.out.2.2]
  rintro e w4 ⟨rfl, b4⟩
  have r4 := r3.below b4 r3.lt
  have f0 := r4.f0
  have f1 := r4.f1
  have g0 := r4.c0
  have g1 := r4.c1
  replace b4 := b3.trans (b4.mono b3.size)
  go_wp2_with fail
  refine bodyPost_int2 rfl rfl rfl (put2 r4) rfl ⟨rfl, ?_⟩
  exact (b4.setCell (p := ⟨w.heap.size + 1 + 1, 0, none⟩) (by simp; omega) _).setCell (p := ⟨w.heap.size + 1 + 1, 1, none⟩) (by simp; omega) _
set_option maxHeartbeats 4000000 in
theorem ref2Add_more (x y : Int) (w : World) (hx : ZOk x) (hy : ZOk y) (hs : zb x ≠ zb y) (hle : y.natAbs ≤ x.natAbs) :
    Calls Tryz.prog 21 #[.agg #[.bool (zb x), .string (zs x)], .agg #[.bool (zb y), .string (zs y)]] w fun e w' => e = .returned (.tuple #[.agg #[.bool (zb (x + y)), .string (zs (x + y))], .int .i64 0]) ∧ Below w.heap.size w w' := by
  have HX := Lib.hid hx
  have HY := Lib.hid hy
  obtain ⟨q1, q2⟩ := sum_diff hs hle
  have hzs : enc (x.natAbs - y.natAbs) = zs (x + y) := by rw [← q1]; rfl
  have HF := Lib.hid (And.intro hzs q2)
  have HL := Lib.hid hle
  have d1 : decide (0 ≤ ncmp x.natAbs y.natAbs) = true := decide_eq_true ((ncmp_ge _ _).2 hle)
  have e1 : (zb x == zb y) = false := by rw [beq_eq_false_iff_ne]; exact hs
  clear hx hy hs hle q1 q2 hzs
  obtain ⟨w1, hw1, bx, by', br, hs1, b1⟩ := box3 w x y
  have k0 := bx.c0
  have k1 := bx.c1
  have k2 := by'.c0
  have k3 := by'.c1
  go_enter Tryz.func21, Tryz.ntmps21
  go_wp2_with fail
  clear k0 k1 k2 k3
  refine (ref2Valid_z x _ HX.out).mono ?_
  rintro e w2 ⟨rfl, b2⟩
  have x1 := bx.below b2 bx.lt
  have y1 := by'.below b2 by'.lt
  have r1 := br.below b2 br.lt
  replace b2 := b1.trans (b2.mono b1.size)
  have k2 := y1.c0
  have k3 := y1.c1
  clear bx by' br b1 hs1 hw1
  go_wp2_with fail
  clear k2 k3
  refine (ref2Valid_z y _ HY.out).mono ?_
  rintro e w2' ⟨rfl, b2'⟩
  have x2 := x1.below b2' x1.lt
  have y2 := y1.below b2' y1.lt
  have r2 := r1.below b2' r1.lt
  replace b2 := b2.trans (b2'.mono b2.size)
  have c0 := x2.c0
  have c1 := x2.c1
  have c2 := y2.c0
  have c3 := y2.c1
  clear x1 y1 r1 b2'
  go_wp2_with fail
  refine (refCmp_any _ _ _ _ _ HX.out.isN HY.out.isN).mono ?_
  rintro e w3' ⟨rfl, b3'⟩
  have x2' := x2.below b3' x2.lt
  have y2' := y2.below b3' y2.lt
  have r2' := r2.below b3' r2.lt
  replace b2 := b2.trans (b3'.mono b2.size)
  clear x2 y2 r2 c0 c1 c2 c3 b3'
  have c0 := x2'.c0
  have c1 := x2'.c1
  have c2 := y2'.c0
  have c3 := y2'.c1
  go_wp2_with fail
  refine (refSub_any _ _ _ _ _ HX.out.isN HY.out.isN HL.out).mono ?_
  rw [HF.out.1]
  rintro e w3 ⟨rfl, b3⟩
  have x3 := x2'.below b3 x2'.lt
  have r3 := r2'.below b3 r2'.lt
  replace b3 := b2.trans (b3.mono b2.size)
  have a0 := x3.c0
  clear x2' y2' r2' b2 c0 c1 c2 c3
  go_wp2_with fail
  refine (refMake_any _ _ _).mono ?_
  rw [HF.out.2]
  rintro e w4 ⟨rfl, b4⟩
  have r4 := r3.below b4 r3.lt
  have f0 := r4.f0
  have f1 := r4.f1
  have g0 := r4.c0
  have g1 := r4.c1
  replace b4 := b3.trans (b4.mono b3.size)
  go_wp2_with fail
  refine bodyPost_int2 rfl rfl rfl (put2 r4) rfl ⟨rfl, ?_⟩
  exact (b4.setCell (p := ⟨w.heap.size + 1 + 1, 0, none⟩) (by simp; omega) _).setCell (p := ⟨w.heap.size + 1 + 1, 1, none⟩) (by simp; omega) _
set_option maxHeartbeats 4000000 in
theorem ref2Add_less (x y : Int) (w : World) (hx : ZOk x) (hy : ZOk y) (hs : zb x ≠ zb y) (hle : x.natAbs < y.natAbs) :
    Calls Tryz.prog 21 #[.agg #[.bool (zb x), .string (zs x)], .agg #[.bool (zb y), .string (zs y)]] w fun e w' => e = .returned (.tuple #[.agg #[.bool (zb (x + y)), .string (zs (x + y))], .int .i64 0]) ∧ Below w.heap.size w w' := by
  have HX := Lib.hid hx
  have HY := Lib.hid hy
  obtain ⟨q1, q2⟩ := sum_diff (x := y) (y := x) (fun h => hs h.symm) (by omega)
  rw [Int.add_comm y x] at q1 q2
  have hzs : enc (y.natAbs - x.natAbs) = zs (x + y) := by rw [← q1]; rfl
  have HF := Lib.hid (And.intro hzs q2)
  have HL := Lib.hid (Nat.le_of_lt hle)
  have d1 : decide (0 ≤ ncmp x.natAbs y.natAbs) = false := decide_eq_false (by rw [ncmp_ge]; omega)
  have e1 : (zb x == zb y) = false := by rw [beq_eq_false_iff_ne]; exact hs
  clear hx hy hs hle q1 q2 hzs
  obtain ⟨w1, hw1, bx, by', br, hs1, b1⟩ := box3 w x y
  have k0 := bx.c0
  have k1 := bx.c1
  have k2 := by'.c0
  have k3 := by'.c1
  go_enter Tryz.func21, Tryz.ntmps21
  go_wp2_with fail
  clear k0 k1 k2 k3
  refine (ref2Valid_z x _ HX.out).mono ?_
  rintro e w2 ⟨rfl, b2⟩
  have x1 := bx.below b2 bx.lt
  have y1 := by'.below b2 by'.lt
  have r1 := br.below b2 br.lt
  replace b2 := b1.trans (b2.mono b1.size)
  have k2 := y1.c0
  have k3 := y1.c1
  clear bx by' br b1 hs1 hw1
  go_wp2_with fail
  clear k2 k3
  refine (ref2Valid_z y _ HY.out).mono ?_
  rintro e w2' ⟨rfl, b2'⟩
  have x2 := x1.below b2' x1.lt
  have y2 := y1.below b2' y1.lt
  have r2 := r1.below b2' r1.lt
  replace b2 := b2.trans (b2'.mono b2.size)
  have c0 := x2.c0
  have c1 := x2.c1
  have c2 := y2.c0
  have c3 := y2.c1
  clear x1 y1 r1 b2'
  go_wp2_with fail
  refine (refCmp_any _ _ _ _ _ HX.out.isN HY.out.isN).mono ?_
  rintro e w3' ⟨rfl, b3'⟩
  have x2' := x2.below b3' x2.lt
  have y2' := y2.below b3' y2.lt
  have r2' := r2.below b3' r2.lt
  replace b2 := b2.trans (b3'.mono b2.size)
  clear x2 y2 r2 c0 c1 c2 c3 b3'
  have c0 := x2'.c0
  have c1 := x2'.c1
  have c2 := y2'.c0
  have c3 := y2'.c1
  go_wp2_with fail
  refine (refSub_any _ _ _ _ _ HY.out.isN HX.out.isN HL.out).mono ?_
  rw [HF.out.1]
  rintro e w3 ⟨rfl, b3⟩
  have y3 := y2'.below b3 y2'.lt
  have r3 := r2'.below b3 r2'.lt
  replace b3 := b2.trans (b3.mono b2.size)
  have a0 := y3.c0
  clear x2' y2' r2' b2 c0 c1 c2 c3
  go_wp2_with fail
  refine (refMake_any _ _ _).mono ?_
  rw [HF.out.2]
  rintro e w4 ⟨rfl, b4⟩
  have r4 := r3.below b4 r3.lt
  have f0 := r4.f0
  have f1 := r4.f1
  have g0 := r4.c0
  have g1 := r4.c1
  replace b4 := b3.trans (b4.mono b3.size)
  go_wp2_with fail
  refine bodyPost_int2 rfl rfl rfl (put2 r4) rfl ⟨rfl, ?_⟩
  exact (b4.setCell (p := ⟨w.heap.size + 1 + 1, 0, none⟩) (by simp; omega) _).setCell (p := ⟨w.heap.size + 1 + 1, 1, none⟩) (by simp; omega) _
theorem ref2Add_z (x y : Int) (w : World) (hx : ZOk x) (hy : ZOk y) (hz : ZOk (x + y)) :
    Calls Tryz.prog 21 #[.agg #[.bool (zb x), .string (zs x)], .agg #[.bool (zb y), .string (zs y)]] w fun e w' => e = .returned (.tuple #[.agg #[.bool (zb (x + y)), .string (zs (x + y))], .int .i64 0]) ∧ Below w.heap.size w w' := by
  by_cases hs : zb x = zb y
  · exact ref2Add_same x y w hx hy hs hz
  · rcases Nat.lt_or_ge x.natAbs y.natAbs with h | h
    · exact ref2Add_less x y w hx hy hs h
    · exact ref2Add_more x y w hx hy hs h
set_option maxHeartbeats 4000000 in
theorem ref2Sub_z (x y : Int) (w : World) (hx : ZOk x) (hy : ZOk y) (hz : ZOk (x - y)) :
    Calls Tryz.prog 204 #[.agg #[.bool (zb x), .string (zs x)], .agg #[.bool (zb y), .string (zs y)]] w fun e w' => e = .returned (.tuple #[.agg #[.bool (zb (x - y)), .string (zs (x - y))], .int .i64 0]) ∧ Below w.heap.size w w' := by
  have HX := Lib.hid hx
  have HY := Lib.hid hy
  have HZ : Hid (ZOk (x + -y)) := by rw [← Int.sub_eq_add_neg]; exact hz
  rw [Int.sub_eq_add_neg]
  clear hx hy hz
  obtain ⟨w1, hw1, bx, by', br, hs1, b1⟩ := box3 w x y
  have k0 := bx.c0
  have k1 := bx.c1
  have k2 := by'.c0
  have k3 := by'.c1
  go_enter Tryz.func204, Tryz.ntmps204
  go_wp2_with fail
  clear k0 k1 k2 k3
  refine (ref2Valid_z x _ HX.out).mono ?_
  rintro e w2 ⟨rfl, b2⟩
  have x1 := bx.below b2 bx.lt
  have y1 := by'.below b2 by'.lt
  have r1 := br.below b2 br.lt
  replace b2 := b1.trans (b2.mono b1.size)
  have k2 := y1.c0
  have k3 := y1.c1
  clear bx by' br b1 hs1 hw1
  go_wp2_with fail
  clear k2 k3
  refine (ref2Valid_z y _ HY.out).mono ?_
  rintro e w2' ⟨rfl, b2'⟩
  have x2 := x1.below b2' x1.lt
  have y2 := y1.below b2' y1.lt
  have r2 := r1.below b2' r1.lt
  replace b2 := b2.trans (b2'.mono b2.size)
  have c0 := x2.c0
  have c1 := x2.c1
  have c2 := y2.c0
  have c3 := y2.c1
  clear x1 y1 r1 b2'
  go_wp2_with fail
  replace x2 := x2.drew
  replace y2 := y2.drew
  replace r2 := r2.drew
  replace b2 := b2.drew
  clear c0 c1 c2 c3
  have c0 := x2.c0
  have c1 := x2.c1
  have c2 := y2.c0
  have c3 := y2.c1
  go_region_with (first
    | (refine (ref2Neg_z y _ HY.out).mono ?_; rintro e w3 ⟨rfl, b3⟩; have x3 := x2.below b3 x2.lt; have r3 := r2.below b3 r2.lt; have b3' := b2.trans (b3.mono b2.size); have d0 := x3.c0; have d1 := x3.c1)
    | (refine (ref2Add_z x (-y) _ HX.out HY.out.neg HZ.out).mono ?_; rintro e w4 ⟨rfl, b4⟩; have r4 := r3.below b4 r3.lt; have b4' := b3'.trans (b4.mono b3'.size); have f0 := r4.f0; have f1 := r4.f1; have e0 := r4.c0; have e1 := r4.c1))
  all_goals
    go_wp2_with fail
    refine bodyPost_int2 rfl rfl rfl (put2 r4) rfl ⟨rfl, ?_⟩
    exact (b4'.setCell (p := ⟨w.heap.size + 1 + 1, 0, none⟩) (by simp; omega) _).setCell (p := ⟨w.heap.size + 1 + 1, 1, none⟩) (by simp; omega) _
set_option maxHeartbeats 4000000 in
theorem ref2Mul_z (x y : Int) (w : World) (hx : ZOk x) (hy : ZOk y) (hz : ZOk (x * y)) :
    Calls Tryz.prog 85 #[.agg #[.bool (zb x), .string (zs x)], .agg #[.bool (zb y), .string (zs y)]] w fun e w' => e = .returned (.tuple #[.agg #[.bool (zb (x * y)), .string (zs (x * y))], .int .i64 0]) ∧ Below w.heap.size w w' := by
  have HX := Lib.hid hx
  have HY := Lib.hid hy
  have hq : blen (x.natAbs * y.natAbs) ≤ 128 := by rw [← Int.natAbs_mul]; exact hz
  have hzs : enc (x.natAbs * y.natAbs) = zs (x * y) := by rw [← Int.natAbs_mul]; rfl
  have HF := Lib.hid (And.intro (fit_ok hq) (And.intro hzs (mul_sign x y)))
  clear hx hy hz hq hzs
  obtain ⟨w1, hw1, bx, by', br, hs1, b1⟩ := box3 w x y
  have k0 := bx.c0
  have k1 := bx.c1
  have k2 := by'.c0
  have k3 := by'.c1
  go_enter Tryz.func85, Tryz.ntmps85
  go_wp2_with fail
  clear k0 k1 k2 k3
  refine (ref2Valid_z x _ HX.out).mono ?_
  rintro e w2 ⟨rfl, b2⟩
  have x1 := bx.below b2 bx.lt
  have y1 := by'.below b2 by'.lt
  have r1 := br.below b2 br.lt
  replace b2 := b1.trans (b2.mono b1.size)
  have k2 := y1.c0
  have k3 := y1.c1
  clear bx by' br b1 hs1 hw1
  go_wp2_with fail
  clear k2 k3
  refine (ref2Valid_z y _ HY.out).mono ?_
  rintro e w2' ⟨rfl, b2'⟩
  have x2 := x1.below b2' x1.lt
  have y2 := y1.below b2' y1.lt
  have r2 := r1.below b2' r1.lt
  replace b2 := b2.trans (b2'.mono b2.size)
  have c0 := x2.c0
  have c1 := x2.c1
  have c2 := y2.c0
  have c3 := y2.c1
  clear x1 y1 r1 b2'
  go_wp2_with fail
  refine (refMul_any _ _ _ _ _ HX.out.isN HY.out.isN).mono ?_
  rw [HF.out.1.1, HF.out.1.2, HF.out.2.1]
  rintro e w3 ⟨rfl, b3⟩
  have x3 := x2.below b3 x2.lt
  have y3 := y2.below b3 y2.lt
  have r3 := r2.below b3 r2.lt
  replace b3 := b2.trans (b3.mono b2.size)
  have a0 := x3.c0
  have a1 := y3.c0
  clear x2 y2 r2 b2 c0 c1 c2 c3
  go_wp2_with fail
  refine (refMake_any _ _ _).mono ?_
  rw [HF.out.2.2]
  rintro e w4 ⟨rfl, b4⟩
  have r4 := r3.below b4 r3.lt
  have f0 := r4.f0
  have f1 := r4.f1
  have g0 := r4.c0
  have g1 := r4.c1
  replace b4 := b3.trans (b4.mono b3.size)
  go_wp2_with fail
  refine bodyPost_int2 rfl rfl rfl (put2 r4) rfl ⟨rfl, ?_⟩
  exact (b4.setCell (p := ⟨w.heap.size + 1 + 1, 0, none⟩) (by simp; omega) _).setCell (p := ⟨w.heap.size + 1 + 1, 1, none⟩) (by simp; omega) _
end Go.Proofs.YtcbamkgomnhdbaaGreatDoor
