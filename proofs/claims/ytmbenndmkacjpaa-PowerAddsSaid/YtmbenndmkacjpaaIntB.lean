/- integer: Add, Sub, Mul where the result fits. -/
import Derived.Test.YtmbenndmkacjpaaInt
import Derived.Test.YtmbenndmkacjpaaNatD
import Derived.Test.YtmbenndmkacjpaaNatB
import Derived.Deep.RegionWith
namespace Go.Proofs.Ytmbenndmkacjpaa
open Go.RowKit Num
set_option maxRecDepth 20000
set_option linter.unusedVariables false
theorem fit_ok {a : Nat} (h : blen a ≤ 128) : fitS a = enc a ∧ fitE a = 0 := by
  unfold fitS fitE
  rw [if_pos h, if_pos h]
  exact ⟨rfl, rfl⟩
/-- the world behind two boxed integers and an empty result -/
theorem box3 (w : World) (x y : Int) : ∃ w1, ((w.alloc (.cells #[.bool (zb x), .string (zs x)] 40)).alloc (.cells #[.bool (zb y), .string (zs y)] 40)).alloc (.cells #[.bool false, .string ⟨#[]⟩] 40) = w1 ∧
    ZBox w1 w.heap.size x ∧ ZBox w1 (w.heap.size + 1) y ∧ RBox w1 (w.heap.size + 1 + 1) ∧ w1.heap.size = w.heap.size + 3 ∧ Below w.heap.size w w1 := by
  obtain ⟨w1, hw, hx, hy, hs, hb⟩ := box2 w x y
  rw [hw]
  have h3 := RBox.new w1
  rw [hs] at h3
  exact ⟨_, rfl, hx.alloc _, hy.alloc _, h3, by rw [World.size_alloc, hs], hb.alloc hb.size _⟩
theorem sum_same {x y : Int} (h : zb x = zb y) : (x + y).natAbs = x.natAbs + y.natAbs ∧ (zb x && !(zs (x + y)).toList.isEmpty) = zb (x + y) := by
  rw [zs_empty]
  unfold zb at *
  by_cases h1 : x < 0
  · have h2 : y < 0 := by rw [decide_eq_true h1] at h; exact of_decide_eq_true h.symm
    rw [decide_eq_true h1, decide_eq_true (show x + y < 0 by omega), decide_eq_false (show ¬ x + y = 0 by omega)]
    exact ⟨by omega, rfl⟩
  · have h2 : ¬ y < 0 := by rw [decide_eq_false h1] at h; exact of_decide_eq_false h.symm
    rw [decide_eq_false h1, decide_eq_false (show ¬ x + y < 0 by omega)]
    exact ⟨by omega, rfl⟩
theorem sum_diff {x y : Int} (h : zb x ≠ zb y) (hle : y.natAbs ≤ x.natAbs) : (x + y).natAbs = x.natAbs - y.natAbs ∧ (zb x && !(zs (x + y)).toList.isEmpty) = zb (x + y) := by
  rw [zs_empty]
  unfold zb at *
  by_cases h1 : x < 0
  · have h2 : ¬ y < 0 := by intro h2; exact h (by rw [decide_eq_true h1, decide_eq_true h2])
    rw [decide_eq_true h1]
    by_cases h3 : x + y = 0
    · rw [decide_eq_true h3, decide_eq_false (show ¬ x + y < 0 by omega)]
      exact ⟨by omega, rfl⟩
    · rw [decide_eq_false h3, decide_eq_true (show x + y < 0 by omega)]
      exact ⟨by omega, rfl⟩
  · have h2 : y < 0 := by
      by_cases h2 : y < 0
      · exact h2
      · exact absurd (by rw [decide_eq_false h1, decide_eq_false h2]) h
    rw [decide_eq_false h1, decide_eq_false (show ¬ x + y < 0 by omega)]
    exact ⟨by omega, rfl⟩
/-- two boxed integers swapped -/
theorem swap2 (w : World) (p q r : Nat) (x y : Int) (B : Nat) (hx : ZBox w p x) (hy : ZBox w q y) (hr : RBox w r) (h1 : p ≠ q) (h2 : p ≠ r) (h3 : q ≠ r) (hp : B ≤ p) (hq : B ≤ q) :
    ∃ w1, (((w.setCell ⟨p, 0, none⟩ (.bool (zb y))).setCell ⟨p, 1, none⟩ (.string (zs y))).setCell ⟨q, 0, none⟩ (.bool (zb x))).setCell ⟨q, 1, none⟩ (.string (zs x)) = w1 ∧
    ZBox w1 p y ∧ ZBox w1 q x ∧ RBox w1 r ∧ Below B w w1 := by
  refine ⟨_, rfl, ?_, ?_, ?_, ((((Below.refl B w).setCell (p := ⟨p, 0, none⟩) hp _).setCell (p := ⟨p, 1, none⟩) hp _).setCell (p := ⟨q, 0, none⟩) hq _).setCell (p := ⟨q, 1, none⟩) hq _⟩
  · exact (Below.heap_setCell _ _ _ _ h1).trans ((Below.heap_setCell _ _ _ _ h1).trans (put2 hx))
  · exact put2 ((Below.heap_setCell _ _ _ _ h1.symm).trans ((Below.heap_setCell _ _ _ _ h1.symm).trans hy))
  · exact (Below.heap_setCell _ _ _ _ h3.symm).trans ((Below.heap_setCell _ _ _ _ h3.symm).trans ((Below.heap_setCell _ _ _ _ h2.symm).trans ((Below.heap_setCell _ _ _ _ h2.symm).trans hr)))
set_option maxHeartbeats 4000000 in
theorem iadd_same (x y : Int) (w : World) (hx : ZOk x) (hy : ZOk y) (hs : zb x = zb y) (hz : ZOk (x + y)) :
    Calls Try.prog 18 #[.agg #[.bool (zb x), .string (zs x)], .agg #[.bool (zb y), .string (zs y)]] w fun e w' => e = .returned (.tuple #[.agg #[.bool (zb (x + y)), .string (zs (x + y))], .int .i64 0]) ∧ Below w.heap.size w w' := by
  have HX := Lib.hid hx
  have HY := Lib.hid hy
  obtain ⟨q1, q2⟩ := sum_same hs
  have hq : blen (x.natAbs + y.natAbs) ≤ 128 := by rw [← q1]; exact hz
  have hzs : enc (x.natAbs + y.natAbs) = zs (x + y) := by rw [← q1]; rfl
  have HF := Lib.hid (And.intro (fit_ok hq) (And.intro hzs q2))
  have e1 : (zb x == zb y) = true := by rw [hs]; simp
  clear hx hy hs hz q1 q2 hq hzs
  obtain ⟨w1, hw1, bx, by', br, hs1, b1⟩ := box3 w x y
  have k0 := bx.c0
  have k1 := bx.c1
  have k2 := by'.c0
  have k3 := by'.c1
  go_enter Try.func18, Try.ntmps18
  go_wp2_with fail
  clear k0 k1 k2 k3
  refine (both_z x y _ HX.out HY.out).mono ?_
  rintro e w2 ⟨rfl, b2⟩
  have x2 := bx.below b2 bx.lt
  have y2 := by'.below b2 by'.lt
  have r2 := br.below b2 br.lt
  replace b2 := b1.trans (b2.mono b1.size)
  have c0 := x2.c0
  have c1 := x2.c1
  have c2 := y2.c0
  have c3 := y2.c1
  clear bx by' br b1 hs1
  go_wp2_with fail
  refine (Add_any _ _ _ _ _ HX.out.isN HY.out.isN).mono ?_
  rw [HF.out.1.1, HF.out.1.2, HF.out.2.1]
  rintro e w3 ⟨rfl, b3⟩
  have x3 := x2.below b3 x2.lt
  have r3 := r2.below b3 r2.lt
  replace b3 := b2.trans (b3.mono b2.size)
  have a0 := x3.c0
  clear x2 y2 r2 b2 c0 c1 c2 c3
  go_wp2_with fail
  refine (made_any _ _ _).mono ?_
  rw [HF.out.2.2]
  rintro e w4 ⟨rfl, b4⟩
  have r4 := r3.below b4 r3.lt
  have f0 := r4.f0
  have f1 := r4.f1
  have g0 := r4.c0
  have g1 := r4.c1
  replace b4 := b3.trans (b4.mono b3.size)
  go_wp2_with fail
  refine bodyPost_int2 rfl rfl rfl (put2 r4) rfl ⟨rfl, ?_⟩
  exact (b4.setCell (p := ⟨w.heap.size + 1 + 1, 0, none⟩) (by simp; omega) _).setCell (p := ⟨w.heap.size + 1 + 1, 1, none⟩) (by simp; omega) _
set_option maxHeartbeats 4000000 in
theorem iadd_more (x y : Int) (w : World) (hx : ZOk x) (hy : ZOk y) (hs : zb x ≠ zb y) (hle : y.natAbs ≤ x.natAbs) :
    Calls Try.prog 18 #[.agg #[.bool (zb x), .string (zs x)], .agg #[.bool (zb y), .string (zs y)]] w fun e w' => e = .returned (.tuple #[.agg #[.bool (zb (x + y)), .string (zs (x + y))], .int .i64 0]) ∧ Below w.heap.size w w' := by
  have HX := Lib.hid hx
  have HY := Lib.hid hy
  obtain ⟨q1, q2⟩ := sum_diff hs hle
  have hzs : enc (x.natAbs - y.natAbs) = zs (x + y) := by rw [← q1]; rfl
  have HF := Lib.hid (And.intro hzs q2)
  have HL := Lib.hid hle
  have d1 : decide (ncmp x.natAbs y.natAbs < 0) = false := by
    unfold ncmp
    rw [if_neg (by omega)]
    split <;> rfl
  have e1 : (zb x == zb y) = false := by rw [beq_eq_false_iff_ne]; exact hs
  clear hx hy hs hle q1 q2 hzs
  obtain ⟨w1, hw1, bx, by', br, hs1, b1⟩ := box3 w x y
  have k0 := bx.c0
  have k1 := bx.c1
  have k2 := by'.c0
  have k3 := by'.c1
  go_enter Try.func18, Try.ntmps18
  go_wp2_with fail
  clear k0 k1 k2 k3
  refine (both_z x y _ HX.out HY.out).mono ?_
  rintro e w2 ⟨rfl, b2⟩
  have x2 := bx.below b2 bx.lt
  have y2 := by'.below b2 by'.lt
  have r2 := br.below b2 br.lt
  replace b2 := b1.trans (b2.mono b1.size)
  have c0 := x2.c0
  have c1 := x2.c1
  have c2 := y2.c0
  have c3 := y2.c1
  clear bx by' br b1 hs1 hw1
  go_wp2_with fail
  refine (Cmp_any _ _ _ _ _ HX.out.isN HY.out.isN).mono ?_
  rintro e w3 ⟨rfl, rfl⟩
  have x4 := x2
  have r4 := r2
  have b4 := b2
  go_wp2_with fail
  refine (Sub_any _ _ _ _ _ HX.out.isN HY.out.isN HL.out).mono ?_
  rw [HF.out.1]
  rintro e w5 ⟨rfl, b5⟩
  have x5 := x4.below b5 x4.lt
  have r5 := r4.below b5 r4.lt
  replace b5 := b4.trans (b5.mono b4.size)
  have a0 := x5.c0
  go_wp2_with fail
  refine (made_any _ _ _).mono ?_
  rw [HF.out.2]
  rintro e w6 ⟨rfl, b6⟩
  have r6 := r5.below b6 r5.lt
  have f0 := r6.f0
  have f1 := r6.f1
  have h0 := r6.c0
  have h1 := r6.c1
  replace b6 := b5.trans (b6.mono b5.size)
  go_wp2_with fail
  refine bodyPost_int2 rfl rfl rfl (put2 r6) rfl ⟨rfl, ?_⟩
  exact (b6.setCell (p := ⟨w.heap.size + 1 + 1, 0, none⟩) (by simp; omega) _).setCell (p := ⟨w.heap.size + 1 + 1, 1, none⟩) (by simp; omega) _
set_option maxHeartbeats 4000000 in
theorem iadd_less (x y : Int) (w : World) (hx : ZOk x) (hy : ZOk y) (hs : zb x ≠ zb y) (hle : x.natAbs < y.natAbs) :
    Calls Try.prog 18 #[.agg #[.bool (zb x), .string (zs x)], .agg #[.bool (zb y), .string (zs y)]] w fun e w' => e = .returned (.tuple #[.agg #[.bool (zb (x + y)), .string (zs (x + y))], .int .i64 0]) ∧ Below w.heap.size w w' := by
  have HX := Lib.hid hx
  have HY := Lib.hid hy
  obtain ⟨q1, q2⟩ := sum_diff (x := y) (y := x) (fun h => hs h.symm) (by omega)
  rw [Int.add_comm y x] at q1 q2
  have hzs : enc (y.natAbs - x.natAbs) = zs (x + y) := by rw [← q1]; rfl
  have HF := Lib.hid (And.intro hzs q2)
  have HL := Lib.hid (Nat.le_of_lt hle)
  have d1 : decide (ncmp x.natAbs y.natAbs < 0) = true := by unfold ncmp; rw [if_pos hle]; rfl
  have e1 : (zb x == zb y) = false := by rw [beq_eq_false_iff_ne]; exact hs
  clear hx hy hs hle q1 q2 hzs
  obtain ⟨w1, hw1, bx, by', br, hs1, b1⟩ := box3 w x y
  have k0 := bx.c0
  have k1 := bx.c1
  have k2 := by'.c0
  have k3 := by'.c1
  go_enter Try.func18, Try.ntmps18
  go_wp2_with fail
  clear k0 k1 k2 k3
  refine (both_z x y _ HX.out HY.out).mono ?_
  rintro e w2 ⟨rfl, b2⟩
  have x2 := bx.below b2 bx.lt
  have y2 := by'.below b2 by'.lt
  have r2 := br.below b2 br.lt
  replace b2 := b1.trans (b2.mono b1.size)
  have c0 := x2.c0
  have c1 := x2.c1
  have c2 := y2.c0
  have c3 := y2.c1
  clear bx by' br b1 hs1 hw1
  go_wp2_with fail
  refine (Cmp_any _ _ _ _ _ HX.out.isN HY.out.isN).mono ?_
  rintro e w3 ⟨rfl, rfl⟩
  obtain ⟨w4, hw4, y4, x4, r4, b4⟩ := swap2 w2 _ _ _ x y w.heap.size x2 y2 r2 (by omega) (by omega) (by omega) (by omega) (by omega)
  replace b4 := b2.trans b4
  have g0 := x2.f0
  have g1 := x2.f1
  have g2 := y2.f0
  have g3 := y2.f1
  have k0 := y4.c0
  have k1 := y4.c1
  have k2 := x4.c0
  have k3 := x4.c1
  go_wp2_with fail
  clear g0 g1 g2 g3 c0 c1 c2 c3 hw4 x2 y2 r2 b2
  refine (Sub_any _ _ _ _ _ HY.out.isN HX.out.isN HL.out).mono ?_
  rw [HF.out.1]
  rintro e w5 ⟨rfl, b5⟩
  have x5 := y4.below b5 y4.lt
  have r5 := r4.below b5 r4.lt
  replace b5 := b4.trans (b5.mono b4.size)
  have a0 := x5.c0
  go_wp2_with fail
  refine (made_any _ _ _).mono ?_
  rw [HF.out.2]
  rintro e w6 ⟨rfl, b6⟩
  have r6 := r5.below b6 r5.lt
  have f0 := r6.f0
  have f1 := r6.f1
  have h0 := r6.c0
  have h1 := r6.c1
  replace b6 := b5.trans (b6.mono b5.size)
  go_wp2_with fail
  refine bodyPost_int2 rfl rfl rfl (put2 r6) rfl ⟨rfl, ?_⟩
  exact (b6.setCell (p := ⟨w.heap.size + 1 + 1, 0, none⟩) (by simp; omega) _).setCell (p := ⟨w.heap.size + 1 + 1, 1, none⟩) (by simp; omega) _
theorem iadd_z (x y : Int) (w : World) (hx : ZOk x) (hy : ZOk y) (hz : ZOk (x + y)) :
    Calls Try.prog 18 #[.agg #[.bool (zb x), .string (zs x)], .agg #[.bool (zb y), .string (zs y)]] w fun e w' => e = .returned (.tuple #[.agg #[.bool (zb (x + y)), .string (zs (x + y))], .int .i64 0]) ∧ Below w.heap.size w w' := by
  by_cases hs : zb x = zb y
  · exact iadd_same x y w hx hy hs hz
  · rcases Nat.lt_or_ge x.natAbs y.natAbs with h | h
    · exact iadd_less x y w hx hy hs h
    · exact iadd_more x y w hx hy hs h
end Go.Proofs.Ytmbenndmkacjpaa
