/- The reference of layer 2: Mod, Extended. -/
import Derived.Test.YtcbamkgomnhdbaaGreatDoorR2b
namespace Go.Proofs.YtcbamkgomnhdbaaGreatDoor
open Go.RowKit Num
set_option maxRecDepth 20000
set_option linter.unusedVariables false
namespace Num
theorem dm_mod {z q : Int} {m r : Nat} (h : z = q * m + r) (hr : r < m) : (z % (m : Int)).toNat = r := by
  rw [h, Int.add_comm, Int.add_mul_emod_self_right, Int.emod_eq_of_lt (by omega) (by omega)]
  rfl
theorem ext_q {b g m rr : Nat} {x q : Int} (hm : b = g * m) (hx : x.natAbs ≤ b) (hq : x = q * m + rr) (hr : rr < m) : q.natAbs ≤ g := by
  have hm' : (b : Int) = g * m := by rw [hm]; push_cast; rfl
  have hmp : (0 : Int) < m := by omega
  rcases Int.lt_or_le (g : Int) q with h | h
  · exfalso
    have h1 : ((g : Int) + 1) * m ≤ q * m := Int.mul_le_mul_of_nonneg_right (by omega) (by omega)
    rw [Int.add_mul] at h1
    omega
  · rcases Int.lt_or_le q (-(g : Int)) with h2 | h2
    · exfalso
      have h1 : q * m ≤ (-(g : Int) - 1) * m := Int.mul_le_mul_of_nonneg_right (by omega) (by omega)
      rw [Int.sub_mul, Int.neg_mul] at h1
      omega
    · omega
theorem ext_eq {a b g m k rr x y q : Int} (hm : b = g * m) (hk : a = g * k) (h : a * x + b * y = g) (hq : x = q * m + rr) : a * rr + b * (y + q * k) = g := by
  subst hm hk hq
  grind
theorem ext_y {a b g rr : Nat} {y : Int} (h0 : 0 < b) (hg : g ≤ b) (h : (a : Int) * rr + b * y = g) (hr : rr < b) : y.natAbs ≤ max a 1 := by
  have h3 : (a : Int) * rr ≤ a * (b - 1) := Int.mul_le_mul_of_nonneg_left (by omega) (by omega)
  rw [Int.mul_sub] at h3
  have h5 : (0 : Int) ≤ a * rr := Int.mul_nonneg (by omega) (by omega)
  rcases Int.lt_or_le 1 y with h1 | h1
  · exfalso
    have h2 : (b : Int) * 2 ≤ b * y := Int.mul_le_mul_of_nonneg_left (by omega) (by omega)
    omega
  · rcases Int.lt_or_le y (-(a : Int)) with h2 | h2
    · exfalso
      have h4 : (b : Int) * y ≤ b * (-(a : Int) - 1) := Int.mul_le_mul_of_nonneg_left (by omega) (by omega)
      rw [Int.mul_sub, Int.mul_neg, Int.mul_comm (b : Int) a] at h4
      omega
    · omega
theorem ext_fin {a b : Nat} {x y q : Int} {rr : Nat} (h0 : 0 < b) (h : (a : Int) * x + b * y = (Nat.gcd a b : Nat)) (hx : x.natAbs ≤ max 1 b) (hq : x = q * ((b / Nat.gcd a b : Nat) : Int) + rr) (hr : rr < b / Nat.gcd a b) :
    (a : Int) * rr + b * (y + q * ((a / Nat.gcd a b : Nat) : Int)) = (Nat.gcd a b : Nat) ∧ (y + q * ((a / Nat.gcd a b : Nat) : Int)).natAbs ≤ max a 1 ∧ (q * ((a / Nat.gcd a b : Nat) : Int)).natAbs ≤ a := by
  have hm : b = Nat.gcd a b * (b / Nat.gcd a b) := (Nat.mul_div_cancel' (Nat.gcd_dvd_right a b)).symm
  have hk : a = Nat.gcd a b * (a / Nat.gcd a b) := (Nat.mul_div_cancel' (Nat.gcd_dvd_left a b)).symm
  have hgb : Nat.gcd a b ≤ b := Nat.le_of_dvd h0 (Nat.gcd_dvd_right a b)
  have hmb : b / Nat.gcd a b ≤ b := Nat.div_le_self _ _
  generalize Nat.gcd a b = g at *
  generalize b / g = m at *
  generalize a / g = k at *
  have hm' : (b : Int) = g * m := by conv => lhs; rw [hm]
                                     push_cast; rfl
  have hk' : (a : Int) = g * k := by conv => lhs; rw [hk]
                                     push_cast; rfl
  have h1 := ext_eq (a := a) (b := b) (g := g) (m := m) (k := k) (rr := rr) hm' hk' h hq
  refine ⟨h1, ext_y h0 hgb h1 (by omega), ?_⟩
  have h2 := ext_q hm (by omega) hq hr
  rw [Int.natAbs_mul, Int.natAbs_natCast]
  calc q.natAbs * k ≤ g * k := Nat.mul_le_mul_right _ h2
    _ = a := hk.symm
end Num
theorem ref2From_e (a : Nat) (w : World) (h : blen a ≤ 128) :
    Calls Tryz.prog 203 #[.string (enc a)] w fun e w' => e = .returned (.agg #[.bool false, .string (enc a)]) ∧ Below w.heap.size w w' := by
  have hz : zb (a : Int) = false := decide_eq_false (by omega)
  have hs : zs (a : Int) = enc a := rfl
  have := ref2From_z a w h
  rw [hz, hs] at this
  exact this
set_option maxHeartbeats 4000000 in
theorem ref2Mod_z (z : Int) (m : Nat) (w : World) (hz : ZOk z) (hm : blen m ≤ 128) (h0 : 0 < m) :
    Calls Tryz.prog 195 #[.agg #[.bool (zb z), .string (zs z)], .string (enc m)] w fun e w' => e = .returned (.tuple #[.string (enc (z % (m : Int)).toNat), .int .i64 0]) ∧ Below w.heap.size w w' := by
  have HZ := Lib.hid hz
  have HM := Lib.hid (IsN.mk' hm)
  have HML := Lib.hid hm
  have H0 := Lib.hid h0
  clear hz hm h0
  have HFIN : Hid (∀ (q : Int) (r : Nat) (W' : World), z = q * m + r → r < m → Below w.heap.size w W' → (Ending.returned (.tuple #[.string (enc r), .int .i64 0]) = .returned (.tuple #[.string (enc (z % (m : Int)).toNat), .int .i64 0]) ∧ Below w.heap.size w W')) :=
    fun q r W' h1 h2 h3 => ⟨by rw [dm_mod h1 h2], h3⟩
  go_enter Tryz.func195, Tryz.ntmps195
  go_wp2_with fail
  have x1 := ZBox.new w z
  have b1 := (Below.refl _ w).alloc (Nat.le_refl _) (.cells #[.bool (zb z), .string (zs z)] 54)
  generalize World.alloc _ _ = w1 at x1 b1 ⊢
  refine (ref2Valid_z z _ HZ.out).mono ?_
  rintro e w2 ⟨rfl, b2⟩
  have x2 := x1.below b2 x1.lt
  replace b2 := bbl b1 b2
  clear x1 b1
  go_wp2_with fail
  refine (refValid_any _ _).mono ?_; rw [HM.out.valid]
  rintro e w3 ⟨rfl, rfl⟩
  go_wp2_with fail
  have x2d : ZBox w2.drew w.heap.size z := x2
  have x2a : ZBox (w2.alloc (.cells #[.bool false, .string ⟨#[]⟩] 54)).drew w.heap.size z := x2.alloc _
  have b2d := b2.drew
  have b2a := (b2.alloc b2.size (.cells #[.bool false, .string ⟨#[]⟩] 54)).drew
  have c0 := x2d.c0
  have c1 := x2d.c1
  have a0 := x2a.c0
  have a1 := x2a.c1
  have a2 := (x2.alloc (.cells #[.bool false, .string ⟨#[]⟩] 54)).c0
  have a3 := (x2.alloc (.cells #[.bool false, .string ⟨#[]⟩] 54)).c1
  go_region_with (first
    | ((with_reducible refine (ref2From_e m _ HML.out).mono ?_); rintro e w5 ⟨rfl, b5⟩; (first | have x5 := x2d.below b5 x2d.lt | have x5 := x2a.below b5 x2a.lt); (first | have b5' := bbl b2d b5 | have b5' := bbl b2a b5); (first | (have r5 : RBox w5 w2.heap.size := (RBox.new w2).drew.below b5 (RBox.new w2).lt) | skip); have z5 := b5.size; have d0 := x5.c0; have d1 := x5.c1; have t5 := x5.alloc (.cells #[.bool false, .string ⟨#[]⟩] 54); have g0 := t5.c0; have g1 := t5.c1)
    | ((with_reducible refine (ref2DivMod_z z m _ HZ.out HML.out H0.out).mono ?_); rintro e w6 ⟨q, r, rfl, hq, hr, hzq, hqa, b6⟩; (first | have b6' := bbl b5' b6 | have b6' := bbl (b5'.alloc b5'.size _) b6); (first | have r6 := r5.below b6 r5.lt | have r6 := (RBox.new _).below b6 (by simp) | have r6 := trivial); have HQ := Lib.hid (And.intro hq hr); clear hq hr hzq hqa; (first | (have f0 := r6.f0; have f1 := r6.f1; have e0 := r6.c0; have e1 := r6.c1) | skip)))
  all_goals (go_wp2_with fail; go_ret2)
  all_goals refine HFIN.out _ _ _ HQ.out.1 HQ.out.2 ?_
  all_goals have s1 := b2.size
  all_goals have s2 := b5'.size
  all_goals have s3 := b6'.size
  all_goals first
    | exact (b6'.setCell (p := ⟨_, 0, none⟩) (by first | exact s1 | exact s2 | exact s3) _).setCell (p := ⟨_, 1, none⟩) (by first | exact s1 | exact s2 | exact s3) _
    | exact b6'.alloc b6'.size _
    | exact ((b6'.alloc b6'.size _).setCell (p := ⟨_, 0, none⟩) (by first | exact s1 | exact s2 | exact s3) _).setCell (p := ⟨_, 1, none⟩) (by first | exact s1 | exact s2 | exact s3) _
end Go.Proofs.YtcbamkgomnhdbaaGreatDoor
