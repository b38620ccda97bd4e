/- integer: Sub, Mul where the result fits. -/
import Derived.Test.YtmbenndmkacjpaaIntB
namespace Go.Proofs.Ytmbenndmkacjpaa
open Go.RowKit Num
set_option maxRecDepth 20000
set_option linter.unusedVariables false
theorem ZBox.drew {w : World} {b : Nat} {z : Int} (h : ZBox w b z) : ZBox w.drew b z := h
theorem RBox.drew {w : World} {b : Nat} (h : RBox w b) : RBox w.drew b := h
set_option maxHeartbeats 4000000 in
theorem isub_z (x y : Int) (w : World) (hx : ZOk x) (hy : ZOk y) (hz : ZOk (x - y)) :
    Calls Try.prog 63 #[.agg #[.bool (zb x), .string (zs x)], .agg #[.bool (zb y), .string (zs y)]] w fun e w' => e = .returned (.tuple #[.agg #[.bool (zb (x - y)), .string (zs (x - y))], .int .i64 0]) ∧ Below w.heap.size w w' := by
  have HX := Lib.hid hx
  have HY := Lib.hid hy
  have HZ : Hid (ZOk (x + -y)) := by rw [← Int.sub_eq_add_neg]; exact hz
  rw [Int.sub_eq_add_neg]
  clear hx hy hz
  obtain ⟨w1, hw1, bx, by', br, hs1, b1⟩ := box3 w x y
  have k0 := bx.c0
  have k1 := bx.c1
  have k2 := by'.c0
  have k3 := by'.c1
  go_enter Try.func63, Try.ntmps63
  go_wp2_with fail
  clear k0 k1 k2 k3
  refine (both_z x y _ HX.out HY.out).mono ?_
  rintro e w2 ⟨rfl, b2⟩
  have x2 := (bx.below b2 bx.lt).drew
  have y2 := (by'.below b2 by'.lt).drew
  have r2 := (br.below b2 br.lt).drew
  replace b2 := (b1.trans (b2.mono b1.size)).drew
  have c0 := x2.c0
  have c1 := x2.c1
  have c2 := y2.c0
  have c3 := y2.c1
  clear bx by' br b1 hs1 hw1
  go_wp2_with fail
  go_region_with (first
    | (refine (neg_z y _ HY.out).mono ?_; rintro e w3 ⟨rfl, b3⟩; have x3 := x2.below b3 x2.lt; have r3 := r2.below b3 r2.lt; have b3' := b2.trans (b3.mono b2.size); have d0 := x3.c0; have d1 := x3.c1)
    | (refine (iadd_z x (-y) _ HX.out HY.out.neg HZ.out).mono ?_; rintro e w4 ⟨rfl, b4⟩; have r4 := r3.below b4 r3.lt; have b4' := b3'.trans (b4.mono b3'.size); have f0 := r4.f0; have f1 := r4.f1; have e0 := r4.c0; have e1 := r4.c1))
  all_goals
    go_wp2_with fail
    refine bodyPost_int2 rfl rfl rfl (put2 r4) rfl ⟨rfl, ?_⟩
    exact (b4'.setCell (p := ⟨w.heap.size + 1 + 1, 0, none⟩) (by simp; omega) _).setCell (p := ⟨w.heap.size + 1 + 1, 1, none⟩) (by simp; omega) _
theorem mul_sign (x y : Int) : ((!(zb x == zb y)) && !(zs (x * y)).toList.isEmpty) = zb (x * y) := by
  rw [zs_empty]
  unfold zb
  rcases Int.lt_trichotomy x 0 with h1 | h1 | h1
  · rcases Int.lt_trichotomy y 0 with h2 | h2 | h2
    · have := Int.mul_pos_of_neg_of_neg h1 h2
      rw [decide_eq_true h1, decide_eq_true h2, decide_eq_false (show ¬ x * y < 0 by omega)]; rfl
    · subst h2; simp
    · have := Int.mul_neg_of_neg_of_pos h1 h2
      rw [decide_eq_true h1, decide_eq_false (show ¬ y < 0 by omega), decide_eq_true this, decide_eq_false (show ¬ x * y = 0 by omega)]; rfl
  · subst h1; simp
  · rcases Int.lt_trichotomy y 0 with h2 | h2 | h2
    · have := Int.mul_neg_of_pos_of_neg h1 h2
      rw [decide_eq_false (show ¬ x < 0 by omega), decide_eq_true h2, decide_eq_true this, decide_eq_false (show ¬ x * y = 0 by omega)]; rfl
    · subst h2; simp
    · have := Int.mul_pos h1 h2
      rw [decide_eq_false (show ¬ x < 0 by omega), decide_eq_false (show ¬ y < 0 by omega), decide_eq_false (show ¬ x * y < 0 by omega)]; rfl
set_option maxHeartbeats 4000000 in
theorem imul_z (x y : Int) (w : World) (hx : ZOk x) (hy : ZOk y) (hz : ZOk (x * y)) :
    Calls Try.prog 62 #[.agg #[.bool (zb x), .string (zs x)], .agg #[.bool (zb y), .string (zs y)]] w fun e w' => e = .returned (.tuple #[.agg #[.bool (zb (x * y)), .string (zs (x * y))], .int .i64 0]) ∧ Below w.heap.size w w' := by
  have HX := Lib.hid hx
  have HY := Lib.hid hy
  have hq : blen (x.natAbs * y.natAbs) ≤ 128 := by rw [← Int.natAbs_mul]; exact hz
  have hzs : enc (x.natAbs * y.natAbs) = zs (x * y) := by rw [← Int.natAbs_mul]; rfl
  have HF := Lib.hid (And.intro (fit_ok hq) (And.intro hzs (mul_sign x y)))
  clear hx hy hz hq hzs
  obtain ⟨w1, hw1, bx, by', br, hs1, b1⟩ := box3 w x y
  have k0 := bx.c0
  have k1 := bx.c1
  have k2 := by'.c0
  have k3 := by'.c1
  go_enter Try.func62, Try.ntmps62
  go_wp2_with fail
  clear k0 k1 k2 k3
  refine (both_z x y _ HX.out HY.out).mono ?_
  rintro e w2 ⟨rfl, b2⟩
  have x2 := bx.below b2 bx.lt
  have y2 := by'.below b2 by'.lt
  have r2 := br.below b2 br.lt
  replace b2 := b1.trans (b2.mono b1.size)
  have c0 := x2.c0
  have c1 := x2.c1
  have c2 := y2.c0
  have c3 := y2.c1
  clear bx by' br b1 hs1 hw1
  go_wp2_with fail
  refine (Mul_any _ _ _ _ _ HX.out.isN HY.out.isN).mono ?_
  rw [HF.out.1.1, HF.out.1.2, HF.out.2.1]
  rintro e w3 ⟨rfl, b3⟩
  have x3 := x2.below b3 x2.lt
  have y3 := y2.below b3 y2.lt
  have r3 := r2.below b3 r2.lt
  replace b3 := b2.trans (b3.mono b2.size)
  have a0 := x3.c0
  have a1 := y3.c0
  clear x2 y2 r2 b2 c0 c1 c2 c3
  go_wp2_with fail
  refine (made_any _ _ _).mono ?_
  rw [HF.out.2.2]
  rintro e w4 ⟨rfl, b4⟩
  have r4 := r3.below b4 r3.lt
  have f0 := r4.f0
  have f1 := r4.f1
  have g0 := r4.c0
  have g1 := r4.c1
  replace b4 := b3.trans (b4.mono b3.size)
  go_wp2_with fail
  refine bodyPost_int2 rfl rfl rfl (put2 r4) rfl ⟨rfl, ?_⟩
  exact (b4.setCell (p := ⟨w.heap.size + 1 + 1, 0, none⟩) (by simp; omega) _).setCell (p := ⟨w.heap.size + 1 + 1, 1, none⟩) (by simp; omega) _
end Go.Proofs.Ytmbenndmkacjpaa
