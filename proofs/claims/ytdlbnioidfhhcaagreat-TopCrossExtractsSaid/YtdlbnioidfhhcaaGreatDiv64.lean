/- The library's division of 128 by 64 bits (math/bits.Div64, Rem64). -/
import Derived.Test.YtdlbnioidfhhcaaGreatNatA
import Derived.Test.YtdlbnioidfhhcaaGreatBits64
import Derived.Test.YtdlbnioidfhhcaaGreatDiv
import Derived.Test.YtdlbnioidfhhcaaGreatLen
import Derived.Test.YtdlbnioidfhhcaaGreatBitLen
import Derived.Deep.DeepCutAuto
import Derived.Deep.CutBlock
import Derived.Deep.QuietTactic
import Derived.BigQuiet
namespace Go.Proofs.YtdlbnioidfhhcaaGreat
open Go.RowKit Num
set_option maxRecDepth 20000

theorem ret_two' {k : IntKind} {a b x y : Int} (h : a = b) (g : x = y) : Ending.returned (.tuple #[.int k a, .int k x]) = .returned (.tuple #[.int k b, .int k y]) := by rw [h, g]
/-- one half of the division: the guess q is not too small; r is what it leaves of the upper part -/
structure Half (u n y y1 y0 : Nat) (q r : Nat) : Prop where
  sum : q * y1 + r = u
  le : (u * 4294967296 + n) / y ≤ q
  qle : q ≤ 4294967297
/-- what does not change in it -/
structure HalfIn (u n y y1 y0 : Nat) : Prop where
  ey : y = y1 * 4294967296 + y0
  big : 2147483648 ≤ y1
  ly1 : y1 < 4294967296
  ly0 : y0 < 4294967296
  lu : u < y
  ln : n < 4294967296
theorem HalfIn.lt {u n y y1 y0 : Nat} (h : HalfIn u n y y1 y0) : (u * 4294967296 + n) / y < 4294967296 := by
  have h1 := h.lu; have h2 := h.ln; have h3 := h.big; have h4 := h.ey
  rw [Nat.div_lt_iff_lt_mul (by omega)]; omega
theorem Half.start {u n y y1 y0 : Nat} (h : HalfIn u n y y1 y0) : Half u n y y1 y0 (u / y1) (u % y1) ∧ u % y1 < 4294967296 := by
  have h1 := h.lu; have h2 := h.ln; have h3 := h.big; have h4 := h.ey; have h5 := h.ly1; have h6 := h.ly0
  refine ⟨⟨by have := Nat.div_add_mod u y1; rw [Nat.mul_comm]; exact this, ?_, ?_⟩, by have := Nat.mod_lt u (show 0 < y1 by omega); omega⟩
  · rw [Nat.le_div_iff_mul_le (by omega)]
    have ha : (u * 4294967296 + n) / y * y ≤ u * 4294967296 + n := Nat.div_mul_le_self _ _
    generalize (u * 4294967296 + n) / y = k at ha ⊢
    rw [h4, Nat.mul_add, ← Nat.mul_assoc] at ha
    have : k * y1 * 4294967296 < (u + 1) * 4294967296 := by omega
    have := Nat.lt_of_mul_lt_mul_right this
    omega
  · have : u / y1 < 4294967298 := by
      rw [Nat.div_lt_iff_lt_mul (by omega)]; omega
    omega
theorem Half.down {u n y y1 y0 q r : Nat} (h : HalfIn u n y y1 y0) (hh : Half u n y y1 y0 q r) (ht : 4294967296 ≤ q ∨ 4294967296 * r + n < q * y0) :
    1 ≤ q ∧ Half u n y y1 y0 (q - 1) (r + y1) := by
  have hl := h.lt
  have hgt : (u * 4294967296 + n) / y < q := by
    rcases ht with ht | ht
    · omega
    · have h3 := h.big; have h4 := h.ey
      rw [Nat.div_lt_iff_lt_mul (by omega), h4, Nat.mul_add, ← Nat.mul_assoc]
      have := hh.sum
      have e : u * 4294967296 = q * y1 * 4294967296 + r * 4294967296 := by rw [← this, Nat.add_mul]
      omega
  have hq := hh.qle
  have hs := hh.sum
  generalize hQ : (u * 4294967296 + n) / y = Q at *
  have h1 : 1 ≤ q := by omega
  obtain ⟨p, rfl⟩ : ∃ p, q = p + 1 := ⟨q - 1, by omega⟩
  rw [Nat.add_mul] at hs
  refine ⟨h1, ?_, ?_, ?_⟩
  · rw [Nat.add_sub_cancel]; omega
  · rw [hQ]; omega
  · omega
theorem Half.exact {u n y y1 y0 q r : Nat} (h : HalfIn u n y y1 y0) (hh : Half u n y y1 y0 q r) (ht : q * y0 ≤ 4294967296 * r + n) : q = (u * 4294967296 + n) / y := by
  have h3 := h.big; have h4 := h.ey
  apply Nat.le_antisymm _ hh.le
  rw [Nat.le_div_iff_mul_le (by omega), h4, Nat.mul_add, ← Nat.mul_assoc]
  have := hh.sum
  have e : u * 4294967296 = q * y1 * 4294967296 + r * 4294967296 := by rw [← this, Nat.add_mul]
  omega
theorem Half.exact_break {u n y y1 y0 q r : Nat} (h : HalfIn u n y y1 y0) (hh : Half u n y y1 y0 q r) (hq : q ≤ 4294967296) (hr : 4294967296 ≤ r) : q = (u * 4294967296 + n) / y := by
  apply Half.exact h hh
  have h1 : q * y0 ≤ 4294967296 * y0 := Nat.mul_le_mul_right _ hq
  have h2 := h.ly0
  omega

set_option maxHeartbeats 1000000 in
theorem Div64_zero (lo y : Nat) (w : World) (_hl : lo < 18446744073709551616) (h0 : 0 < y) (_hy : y < 18446744073709551616) :
    Calls Tryz.prog 118 #[.int .u64 0, .int .u64 (lo : Int), .int .u64 (y : Int)] w fun e w' => e = .returned (.tuple #[.int .u64 ((lo / y : Nat) : Int), .int .u64 ((lo % y : Nat) : Int)]) ∧ Below w.heap.size w w' := by
  have nz : ((y : Int) == 0) = false := by rw [beq_eq_false_iff_ne]; omega
  have nz2 : ¬ ((y : Int) = 0) := by omega
  go_enter Tryz.func118, Tryz.ntmps118
  go_wp2_with fail
  go_quiet (fail)
  go_wp2_with fail
  go_ret2
  refine ⟨ret_two' ?_ ?_, below_drewN (Below.refl _ _) _⟩
  · rw [← Int.natCast_ediv]; exact wraps_u64 _ (Int.natCast_nonneg _) (by have := Nat.div_le_self lo y; omega)
  · rw [← Int.natCast_emod]

/-- the same over integers -/
def HalfInI (u n y y1 y0 : Int) : Prop := ∃ u' n' y' a b : Nat, u = u' ∧ n = n' ∧ y = y' ∧ y1 = a ∧ y0 = b ∧ HalfIn u' n' y' a b
def HalfI (u n y y1 y0 q r : Int) : Prop := ∃ u' n' y' a b q' r' : Nat, u = u' ∧ n = n' ∧ y = y' ∧ y1 = a ∧ y0 = b ∧ q = q' ∧ r = r' ∧ Half u' n' y' a b q' r'
theorem HalfI.down {u n y y1 y0 q r : Int} (hh : HalfI u n y y1 y0 q r) (h : HalfInI u n y y1 y0) (ht : 4294967296 ≤ q ∨ 4294967296 * r + n < q * y0) : 1 ≤ q ∧ HalfI u n y y1 y0 (q - 1) (r + y1) := by
  obtain ⟨u', n', y', a, b, q', r', rfl, rfl, rfl, rfl, rfl, rfl, rfl, h1⟩ := hh
  obtain ⟨u2, n2, y2, a2, b2, e1, e2, e3, e4, e5, h2⟩ := h
  obtain rfl := Int.ofNat.inj e1; obtain rfl := Int.ofNat.inj e2; obtain rfl := Int.ofNat.inj e3; obtain rfl := Int.ofNat.inj e4; obtain rfl := Int.ofNat.inj e5
  obtain ⟨d1, d2⟩ := h1.down h2 (by rw [← Int.natCast_mul] at ht; omega)
  exact ⟨by omega, u', n', y', a, b, q' - 1, r' + a, rfl, rfl, rfl, rfl, rfl, by omega, by omega, d2⟩
theorem HalfI.exact {u n y y1 y0 q r : Int} (h : HalfInI u n y y1 y0) (hh : HalfI u n y y1 y0 q r) (ht : q * y0 ≤ 4294967296 * r + n) : q = (u * 4294967296 + n) / y := by
  obtain ⟨u', n', y', a, b, q', r', rfl, rfl, rfl, rfl, rfl, rfl, rfl, h1⟩ := hh
  obtain ⟨u2, n2, y2, a2, b2, e1, e2, e3, e4, e5, h2⟩ := h
  obtain rfl := Int.ofNat.inj e1; obtain rfl := Int.ofNat.inj e2; obtain rfl := Int.ofNat.inj e3; obtain rfl := Int.ofNat.inj e4; obtain rfl := Int.ofNat.inj e5
  have := h1.exact h2 (by rw [← Int.natCast_mul] at ht; omega)
  rw [show (u' : Int) * 4294967296 + n' = ((u' * 4294967296 + n' : Nat) : Int) from by omega, ← Int.natCast_ediv]
  omega
theorem HalfI.exact_break {u n y y1 y0 q r : Int} (h : HalfInI u n y y1 y0) (hh : HalfI u n y y1 y0 q r) (hq : q ≤ 4294967296) (hr : 4294967296 ≤ r) : q = (u * 4294967296 + n) / y := by
  obtain ⟨u', n', y', a, b, q', r', rfl, rfl, rfl, rfl, rfl, rfl, rfl, h1⟩ := hh
  obtain ⟨u2, n2, y2, a2, b2, e1, e2, e3, e4, e5, h2⟩ := h
  obtain rfl := Int.ofNat.inj e1; obtain rfl := Int.ofNat.inj e2; obtain rfl := Int.ofNat.inj e3; obtain rfl := Int.ofNat.inj e4; obtain rfl := Int.ofNat.inj e5
  have := h1.exact_break h2 (by omega) (by omega)
  rw [show (u' : Int) * 4294967296 + n' = ((u' * 4294967296 + n' : Nat) : Int) from by omega, ← Int.natCast_ediv]
  omega
theorem wrap_rem (U C Q Y V : Int) (h : U * 4294967296 + C - Q * Y = V) (h0 : 0 ≤ V) (h1 : V < 18446744073709551616) :
    IntKind.u64.wrap (IntKind.u64.wrap (IntKind.u64.wrap (U * 4294967296) + C) - IntKind.u64.wrap (Q * Y)) = V := by
  rw [IntKind.wrap_u64, IntKind.wrap_u64, IntKind.wrap_u64, IntKind.wrap_u64]
  generalize Q * Y = P at *
  omega
theorem wrap_mod (U A : Int) (hA : 0 < A) (h0 : 0 ≤ U) (h1 : U < 18446744073709551616) : IntKind.u64.wrap (U - IntKind.u64.wrap (U / A * A)) = U % A := by
  have h2 := Int.mul_ediv_add_emod U A
  have h3 := Int.emod_nonneg U (show A ≠ 0 by omega)
  have h4 := Int.emod_lt_of_pos U hA
  have h5 : 0 ≤ U / A * A := Int.mul_nonneg (Int.ediv_nonneg h0 (by omega)) (by omega)
  rw [Int.mul_comm] at h2
  rw [wraps_u64 (U / A * A) h5 (by omega), wraps_u64 _ (by omega) (by omega)]
  omega
theorem HalfInI.rem {u n y y1 y0 : Int} (h : HalfInI u n y y1 y0) : ∃ q v : Int, q = (u * 4294967296 + n) / y ∧ v = (u * 4294967296 + n) % y ∧ u * 4294967296 + n - q * y = v ∧ 0 ≤ v ∧ v < y ∧ 0 ≤ q ∧ q < 4294967296 := by
  obtain ⟨u2, n2, y2, a2, b2, rfl, rfl, rfl, rfl, rfl, h2⟩ := h
  have hl := h2.lt
  have h3 := h2.ey; have h4 := h2.big
  refine ⟨_, _, rfl, rfl, ?_, ?_⟩
  · have := Int.mul_ediv_add_emod ((u2 : Int) * 4294967296 + n2) y2
    rw [Int.mul_comm] at this; omega
  · have e : (u2 : Int) * 4294967296 + n2 = ((u2 * 4294967296 + n2 : Nat) : Int) := by omega
    rw [e]
    refine ⟨Int.emod_nonneg _ (by omega), Int.emod_lt_of_pos _ (by omega), ?_⟩
    rw [← Int.natCast_ediv]; exact ⟨Int.natCast_nonneg _, by omega⟩
theorem HalfI.start {u n y y1 y0 : Int} (h : HalfInI u n y y1 y0) : HalfI u n y y1 y0 (u / y1) (u % y1) ∧ 0 ≤ u / y1 ∧ u / y1 ≤ 4294967297 ∧ 0 ≤ u % y1 ∧ u % y1 < 4294967296 := by
  obtain ⟨u2, n2, y2, a2, b2, rfl, rfl, rfl, rfl, rfl, h2⟩ := h
  obtain ⟨s1, s2⟩ := Half.start h2
  have := s1.qle
  rw [← Int.natCast_ediv, ← Int.natCast_emod]
  exact ⟨⟨u2, n2, y2, a2, b2, u2 / a2, u2 % a2, rfl, rfl, rfl, rfl, rfl, rfl, rfl, s1⟩, Int.natCast_nonneg _, by omega, Int.natCast_nonneg _, by omega⟩
/-- the two halves make the whole -/
theorem halves (N y sh Y Q1 Q0 V R : Int) (u n1 n0 : Int) (e1 : u * 4294967296 + n1 - Q1 * Y = V) (e2 : V * 4294967296 + n0 - Q0 * Y = R) (r0 : 0 ≤ R) (r1 : R < Y)
    (hN : N * sh = u * 18446744073709551616 + (n1 * 4294967296 + n0)) (hy : Y = y * sh) (hs : 0 < sh) (hy0 : 0 < y) :
    Q1 * 4294967296 + Q0 = N / y ∧ R / sh = N % y := by
  have h1 : N * sh = (Q1 * 4294967296 + Q0) * (y * sh) + R := by
    rw [hN, ← hy]
    have : (Q1 * 4294967296 + Q0) * Y = 4294967296 * (Q1 * Y) + Q0 * Y := by rw [Int.add_mul, Int.mul_right_comm, Int.mul_comm _ 4294967296]
    rw [this]; omega
  have h2 : R = (N - (Q1 * 4294967296 + Q0) * y) * sh := by
    rw [Int.sub_mul, h1, Int.mul_assoc]; omega
  generalize hZ : N - (Q1 * 4294967296 + Q0) * y = Z at h2
  have hZ0 : 0 ≤ Z := by
    rcases Int.lt_or_le Z 0 with h | h
    · have : Z * sh < 0 := Int.mul_neg_of_neg_of_pos h hs
      omega
    · exact h
  have hZ1 : Z < y := by
    apply Int.lt_of_mul_lt_mul_right (a := sh) _ (by omega)
    rw [← h2, ← hy]; exact r1
  have h3 : N = (Q1 * 4294967296 + Q0) * y + Z := by omega
  constructor
  · rw [h3, Int.add_comm (_ * y) Z, Int.add_mul_ediv_right _ _ (by omega), Int.ediv_eq_zero_of_lt hZ0 hZ1, Int.zero_add]
  · rw [h2, Int.mul_ediv_cancel _ (by omega), h3, Int.add_comm (_ * y) Z, Int.add_mul_emod_self_right, Int.emod_eq_of_lt hZ0 hZ1]
theorem and_mask32 (Y : Nat) (h : Y < 18446744073709551616) : bits .and .u64 (Y : Int) 4294967295 = ((Y % 4294967296 : Nat) : Int) := Mul64.maskN Y h
theorem div_scale (hi lo y sh : Nat) (h : hi < y) (hl : lo < 18446744073709551616) (s63 : sh ≤ 63) :
    hi * 2 ^ sh + lo / 2 ^ (64 - sh) < y * 2 ^ sh ∧ lo / 2 ^ (64 - sh) < 2 ^ sh ∧ (hi * 18446744073709551616 + lo) * 2 ^ sh = (hi * 2 ^ sh + lo / 2 ^ (64 - sh)) * 18446744073709551616 + lo * 2 ^ sh % 18446744073709551616 := by
  have e : (18446744073709551616 : Nat) = 2 ^ (64 - sh) * 2 ^ sh := by rw [← Nat.pow_add, show 64 - sh + sh = 64 from by omega]
  have h1 : lo / 2 ^ (64 - sh) < 2 ^ sh := by rw [Nat.div_lt_iff_lt_mul (Nat.two_pow_pos _), Nat.mul_comm, ← e]; exact hl
  refine ⟨?_, h1, ?_⟩
  · have : (hi + 1) * 2 ^ sh ≤ y * 2 ^ sh := Nat.mul_le_mul_right _ h
    rw [Nat.add_mul] at this; omega
  · have h2 : lo * 2 ^ sh / 18446744073709551616 = lo / 2 ^ (64 - sh) := by
      rw [e, Nat.mul_comm (2 ^ (64 - sh)), ← Nat.div_div_eq_div_mul, Nat.mul_div_cancel _ (Nat.two_pow_pos sh)]
    have h3 := Nat.div_add_mod (lo * 2 ^ sh) 18446744073709551616
    rw [h2] at h3
    rw [Nat.add_mul, Nat.add_mul, Nat.mul_right_comm]; omega

set_option maxHeartbeats 1000000 in
theorem Div64_long (hi lo y : Nat) (w : World) (h0 : 0 < hi) (h : hi < y) (hl : lo < 18446744073709551616) (hy : y < 18446744073709551616) :
    Calls Tryz.prog 118 #[.int .u64 (hi : Int), .int .u64 (lo : Int), .int .u64 (y : Int)] w fun e w' =>
      e = .returned (.tuple #[.int .u64 (((hi * 18446744073709551616 + lo) / y : Nat) : Int), .int .u64 (((hi * 18446744073709551616 + lo) % y : Nat) : Int)]) ∧ Below w.heap.size w w' := by
  have nz : ((y : Int) == 0) = false := by rw [beq_eq_false_iff_ne]; omega
  have nz3 : ((hi : Int) == 0) = false := by rw [beq_eq_false_iff_ne]; omega
  obtain ⟨sh, hsh, s63, sl, su⟩ := shift64 y (by omega) hy
  have HSH := Lib.hid hsh; clear hsh
  have HSL := Lib.hid sl; clear sl
  have HSU := Lib.hid su; clear su
  obtain ⟨ds1, ds2, ds3⟩ := div_scale hi lo y sh h hl s63
  obtain ⟨Y, hY⟩ : ∃ Y, Y = y * 2 ^ sh := ⟨_, rfl⟩
  obtain ⟨hs, hhs⟩ : ∃ x, x = hi * 2 ^ sh := ⟨_, rfl⟩
  obtain ⟨l2, hl2⟩ : ∃ x, x = lo / 2 ^ (64 - sh) := ⟨_, rfl⟩
  obtain ⟨L, hL⟩ : ∃ x, x = lo * 2 ^ sh % 18446744073709551616 := ⟨_, rfl⟩
  have hY1 : Y < 18446744073709551616 := by rw [hY]; exact HSU.out
  have hY2 : 9223372036854775808 ≤ Y := by rw [hY]; exact HSL.out
  have hL1 : L < 18446744073709551616 := by rw [hL]; omega
  rw [← hhs, ← hl2, ← hY] at ds1
  rw [← hl2] at ds2
  rw [← hhs, ← hl2, ← hL] at ds3
  have r1 : IntKind.u64.wrap ((y : Int) * 2 ^ sh) = (Y : Int) := by
    rw [show (y : Int) * 2 ^ sh = ((y * 2 ^ sh : Nat) : Int) from by simp, ← hY]; exact wraps_u64 _ (by omega) (by omega)
  have r4 : IntKind.u64.wrap ((hi : Int) * 2 ^ sh) = (hs : Int) := by
    rw [show (hi : Int) * 2 ^ sh = ((hi * 2 ^ sh : Nat) : Int) from by simp, ← hhs]; exact wraps_u64 _ (by omega) (by omega)
  have r6 : (lo : Int) / 2 ^ (64 - sh) = (l2 : Int) := by rw [hl2]; simp
  have r8 : IntKind.u64.wrap ((lo : Int) * 2 ^ sh) = (L : Int) := by
    rw [show (lo : Int) * 2 ^ sh = ((lo * 2 ^ sh : Nat) : Int) from by simp, hL]; exact Mul64.wrapM _
  have r7 : bits .or .u64 (hs : Int) (l2 : Int) = ((hs + l2 : Nat) : Int) := by
    rw [or_u64 sh _ _ (by omega) (by rw [hhs]; simp) (by omega) (by omega) (by exact_mod_cast ds2) (by omega)]; simp
  have r3 := and_mask32 Y hY1
  have r10 := and_mask32 L hL1
  have EYY := Lib.hid hY
  clear hY hhs hl2 hL
  obtain ⟨y1, hy1⟩ : ∃ x, x = Y / 4294967296 := ⟨_, rfl⟩
  obtain ⟨y0, hy0⟩ : ∃ x, x = Y % 4294967296 := ⟨_, rfl⟩
  obtain ⟨n1, hn1⟩ : ∃ x, x = L / 4294967296 := ⟨_, rfl⟩
  obtain ⟨n0, hn0⟩ : ∃ x, x = L % 4294967296 := ⟨_, rfl⟩
  obtain ⟨u, hu⟩ : ∃ x, x = hs + l2 := ⟨_, rfl⟩
  have r2 : (Y : Int) / 4294967296 = (y1 : Int) := by omega
  have r9 : (L : Int) / 4294967296 = (n1 : Int) := by omega
  rw [← hy0] at r3
  rw [← hn0] at r10
  rw [← hu] at r7 ds1 ds3
  have hin1 : HalfIn u n1 Y y1 y0 := ⟨by omega, by omega, by omega, by omega, ds1, by omega⟩
  have hLd : L = n1 * 4294967296 + n0 := by omega
  have hn0l : n0 < 4294967296 := by omega
  have hy1p : 2147483648 ≤ y1 := by omega
  have hy1l : y1 < 4294967296 := by omega
  have hy0l : y0 < 4294967296 := by omega
  have hn1l : n1 < 4294967296 := by omega
  have DS3 := Lib.hid ds3; clear ds3
  have HLD := Lib.hid hLd; clear hLd
  clear hu hy1 hy0 hn1 hn0 ds2
  -- the numbers as integers of the walk
  obtain ⟨Yi, eY⟩ : ∃ z : Int, z = (Y : Int) := ⟨_, rfl⟩
  obtain ⟨Ai, eA⟩ : ∃ z : Int, z = (y1 : Int) := ⟨_, rfl⟩
  obtain ⟨Bi, eB⟩ : ∃ z : Int, z = (y0 : Int) := ⟨_, rfl⟩
  obtain ⟨Ci, eC⟩ : ∃ z : Int, z = (n1 : Int) := ⟨_, rfl⟩
  obtain ⟨Di, eD⟩ : ∃ z : Int, z = (n0 : Int) := ⟨_, rfl⟩
  obtain ⟨Ui, eU⟩ : ∃ z : Int, z = (u : Int) := ⟨_, rfl⟩
  rw [← eY] at r1 r2 r3
  rw [← eA] at r2
  rw [← eB] at r3
  rw [← eC] at r9
  rw [← eD] at r10
  rw [← eU] at r7
  have bA1 : 2147483648 ≤ Ai := by omega
  have bA2 : Ai < 4294967296 := by omega
  have bB1 : 0 ≤ Bi := by omega
  have bB2 : Bi < 4294967296 := by omega
  have bC1 : 0 ≤ Ci := by omega
  have bC2 : Ci < 4294967296 := by omega
  have bD1 : 0 ≤ Di := by omega
  have bD2 : Di < 4294967296 := by omega
  have bU1 : 0 ≤ Ui := by omega
  have bU2 : Ui < 18446744073709551616 := by omega
  have bY1 : 0 < Yi := by omega
  have bY2 : Yi < 18446744073709551616 := by omega
  have EY := Lib.hid eY; have EA := Lib.hid eA; have EB := Lib.hid eB; have EC := Lib.hid eC; have ED := Lib.hid eD; have EU := Lib.hid eU
  clear eY eA eB eC eD eU hn0l hy1p hy1l hy0l hn1l hY1 hY2 hL1
  have DS1 := Lib.hid ds1; clear ds1
  have nz4 : (Ai == 0) = false := by rw [beq_eq_false_iff_ne]; omega
  have nz5 : ¬ (Ai = 0) := by omega
  have hii : HalfInI Ui Ci Yi Ai Bi := ⟨u, n1, Y, y1, y0, EU.out, EC.out, EY.out, EA.out, EB.out, hin1⟩
  obtain ⟨Qi, Vi, eQ, eV, f1, f2, f3, f4, f5⟩ := hii.rem
  have hii2 : HalfInI Vi Di Yi Ai Bi := ⟨Vi.toNat, n0, Y, y1, y0, by omega, ED.out, EY.out, EA.out, EB.out, ⟨hin1.ey, hin1.big, hin1.ly1, hin1.ly0, by have := EY.out; omega, by have := ED.out; omega⟩⟩
  obtain ⟨Pi, Wi, eP, eW, k1, k2, k3, k4, k5⟩ := hii2.rem
  have rM1 := wrap_mod Ui Ai (by omega) bU1 bU2
  have rM2 := wrap_mod Vi Ai (by omega) f2 (by omega)
  have rV := wrap_rem Ui Ci Qi Yi Vi f1 f2 (by omega)
  have rW := wrap_rem Vi Di Pi Yi Wi k1 k2 (by omega)
  have fV : Vi < 18446744073709551616 := by omega
  have hfin := halves ((hi : Int) * 18446744073709551616 + lo) y ((2 ^ sh : Nat) : Int) Yi Qi Pi Vi Wi Ui Ci Di f1 k1 k2 k3
    (by have h1 := DS3.out; have h2 := HLD.out; have h3 := EU.out; have h4 := EC.out; have h5 := ED.out
        rw [h2] at h1
        have h6 : (((hi * 18446744073709551616 + lo) * 2 ^ sh : Nat) : Int) = ((u * 18446744073709551616 + (n1 * 4294967296 + n0) : Nat) : Int) := by rw [h1]
        rw [Int.natCast_mul] at h6
        rw [show (hi : Int) * 18446744073709551616 + lo = ((hi * 18446744073709551616 + lo : Nat) : Int) from by omega, h6]
        omega)
    (by have h1 := EY.out; rw [h1, ← Int.natCast_mul]; exact congrArg _ EYY.out) (by have := Nat.two_pow_pos sh; omega) (by omega)
  have HFIN := Lib.hid hfin; clear hfin
  have HIN1 := Lib.hid hii; clear hii
  have HIN2 := Lib.hid hii2; clear hii2
  have EQ := Lib.hid eQ; clear eQ
  have EP := Lib.hid eP; clear eP
  clear eV eW f1 k1 hin1
  go_enter Tryz.func118, Tryz.ntmps118
  go_wp2_with fail
  refine (bits_LeadingZeros64 _ _ (by omega) (by omega)).mono ?_; rintro e w' ⟨rfl, rfl⟩
  rw [Int.toNat_natCast, HSH.out]
  go_upto_block 0 with fail
  go_cut [15, 16] (fun s15 s16 wc => s15 = .int .u64 Qi ∧ wc = w)
  case first =>
    clear r1 r2 r3 r4 r6 r7 r8 r9 r10 nz nz3 nz4 nz5 hl hy h h0 rM1 rM2 rV rW
    go_wp2_with fail
    go_loop [15, 16] (fun a b => ∃ q r : Int, a = .int .u64 q ∧ b = .int .u64 r ∧ HalfI Ui Ci Yi Ai Bi q r ∧ 0 ≤ q ∧ q ≤ 4294967297 ∧ 0 ≤ r ∧ r < 4294967296) (fun a _ => (intOf a).toNat)
    case atStart =>
      obtain ⟨s1, s2, s3, s4, s5⟩ := HalfI.start HIN1.out
      exact ⟨_, _, rfl, rfl, s1, s2, s3, s4, s5⟩
    case round =>
      obtain ⟨q, r, rfl, rfl, hh, q0, q1, r0, r1⟩ := hrel
      have m1 : 0 ≤ q * Bi := Int.mul_nonneg q0 bB1
      by_cases hqB : 4294967296 ≤ q
      · obtain ⟨dn1, dn2⟩ := hh.down HIN1.out (.inl hqB)
        by_cases hrB : 4294967296 ≤ r + Ai
        · have ex := HalfI.exact_break HIN1.out dn2 (by omega) hrB
          have EX := Lib.hid ex; clear ex
          go_wp2_with fail
          go_meet
          exact ⟨by rw [EX.out, EQ.out], rfl⟩
        · go_wp2_with fail
          go_round
          case rel => exact ⟨q - 1, r + Ai, rfl, rfl, dn2, by omega, by omega, by omega, by omega⟩
          case measure => simp [intOf]; omega
      · have m2 : q * Bi < 18446744073709551616 := by
          have : q * Bi ≤ 4294967295 * 4294967295 := Int.mul_le_mul (by omega) (by omega) bB1 (by omega)
          omega
        by_cases ht : 4294967296 * r + Ci < q * Bi
        · obtain ⟨dn1, dn2⟩ := hh.down HIN1.out (.inr ht)
          by_cases hrB : 4294967296 ≤ r + Ai
          · have ex := HalfI.exact_break HIN1.out dn2 (by omega) hrB
            have EX := Lib.hid ex; clear ex
            go_wp2_with fail
            go_meet
            exact ⟨by rw [EX.out, EQ.out], rfl⟩
          · go_wp2_with fail
            go_round
            case rel => exact ⟨q - 1, r + Ai, rfl, rfl, dn2, by omega, by omega, by omega, by omega⟩
            case measure => simp [intOf]; omega
        · have ex := HalfI.exact HIN1.out hh (by omega)
          have EX := Lib.hid ex; clear ex
          go_wp2_with fail
          go_meet
          exact ⟨by rw [EX.out, EQ.out], rfl⟩
  case rest =>
    obtain ⟨rfl, rfl⟩ := hcut
    go_upto_block 2 with fail
    go_cut [16, 18] (fun s16 s18 wc' => s18 = .int .u64 Pi ∧ wc' = wc)
    case first =>
      clear r1 r2 r3 r4 r6 r7 r8 r9 r10 nz nz3 nz4 nz5 hl hy h h0 rM1 rM2 rV rW
      go_wp2_with fail
      go_loop [16, 18] (fun b a => ∃ q r : Int, a = .int .u64 q ∧ b = .int .u64 r ∧ HalfI Vi Di Yi Ai Bi q r ∧ 0 ≤ q ∧ q ≤ 4294967297 ∧ 0 ≤ r ∧ r < 4294967296) (fun _ a => (intOf a).toNat)
      case atStart =>
        obtain ⟨s1, s2, s3, s4, s5⟩ := HalfI.start HIN2.out
        exact ⟨_, _, rfl, rfl, s1, s2, s3, s4, s5⟩
      case round =>
        obtain ⟨q, r, rfl, rfl, hh, q0, q1, r0, r1⟩ := hrel
        have m1 : 0 ≤ q * Bi := Int.mul_nonneg q0 bB1
        by_cases hqB : 4294967296 ≤ q
        · obtain ⟨dn1, dn2⟩ := hh.down HIN2.out (.inl hqB)
          by_cases hrB : 4294967296 ≤ r + Ai
          · have ex := HalfI.exact_break HIN2.out dn2 (by omega) hrB
            have EX := Lib.hid ex; clear ex
            go_wp2_with fail
            go_meet
            exact ⟨by rw [EX.out, EP.out], rfl⟩
          · go_wp2_with fail
            go_round
            case rel => exact ⟨q - 1, r + Ai, rfl, rfl, dn2, by omega, by omega, by omega, by omega⟩
            case measure => simp [intOf]; omega
        · have m2 : q * Bi < 18446744073709551616 := by
            have : q * Bi ≤ 4294967295 * 4294967295 := Int.mul_le_mul (by omega) (by omega) bB1 (by omega)
            omega
          by_cases ht : 4294967296 * r + Di < q * Bi
          · obtain ⟨dn1, dn2⟩ := hh.down HIN2.out (.inr ht)
            by_cases hrB : 4294967296 ≤ r + Ai
            · have ex := HalfI.exact_break HIN2.out dn2 (by omega) hrB
              have EX := Lib.hid ex; clear ex
              go_wp2_with fail
              go_meet
              exact ⟨by rw [EX.out, EP.out], rfl⟩
            · go_wp2_with fail
              go_round
              case rel => exact ⟨q - 1, r + Ai, rfl, rfl, dn2, by omega, by omega, by omega, by omega⟩
              case measure => simp [intOf]; omega
          · have ex := HalfI.exact HIN2.out hh (by omega)
            have EX := Lib.hid ex; clear ex
            go_wp2_with fail
            go_meet
            exact ⟨by rw [EX.out, EP.out], rfl⟩

    case rest =>
      obtain ⟨rfl, rfl⟩ := hcut
      go_wp2_with fail
      go_ret2
      refine ⟨ret_two' ?_ ?_, ?_⟩
      · rw [HFIN.out.1, Int.natCast_ediv]; simp
      · rw [show (2 : Int) ^ sh = ((2 ^ sh : Nat) : Int) from by simp, HFIN.out.2, Int.natCast_emod]; simp
      · exact Below.refl _ _

theorem Div64_any (hi lo y : Nat) (w : World) (h : hi < y) (hl : lo < 18446744073709551616) (hy : y < 18446744073709551616) :
    Calls Tryz.prog 118 #[.int .u64 (hi : Int), .int .u64 (lo : Int), .int .u64 (y : Int)] w fun e w' =>
      e = .returned (.tuple #[.int .u64 (((hi * 18446744073709551616 + lo) / y : Nat) : Int), .int .u64 (((hi * 18446744073709551616 + lo) % y : Nat) : Int)]) ∧ Below w.heap.size w w' := by
  by_cases h0 : hi = 0
  · subst h0
    rw [Nat.zero_mul, Nat.zero_add]
    exact Div64_zero lo y w hl (by omega) hy
  · exact Div64_long hi lo y w (by omega) h hl hy
/-- the remainder of a product -/
def rem64 (x y z : Nat) : Int := ((x * y % z : Nat) : Int)
set_option maxHeartbeats 1000000 in
theorem Rem64_any (x y z : Nat) (w : World) (h0 : 0 < z) (hz : z < 18446744073709551616) :
    Calls Tryz.prog 99 #[.int .u64 (hi64 x y), .int .u64 (lo64 x y), .int .u64 (z : Int)] w fun e w' => e = .returned (.int .u64 (rem64 x y z)) ∧ Below w.heap.size w w' := by
  have nz : ((z : Int) == 0) = false := by rw [beq_eq_false_iff_ne]; omega
  have nz2 : ¬ ((z : Int) = 0) := by omega
  have z0 : 0 < (z : Int) := by omega
  have hh0 : 0 ≤ hi64 x y := Int.natCast_nonneg _
  obtain ⟨m, hm⟩ : ∃ m, m = x * y / 18446744073709551616 % z := ⟨_, rfl⟩
  have hmz : m < z := by rw [hm]; exact Nat.mod_lt _ h0
  have e1 : hi64 x y % (z : Int) = (m : Int) := by rw [hm]; simp [hi64]
  have he : (m * 18446744073709551616 + x * y % 18446744073709551616) % z = x * y % z := by
    have h1 := Nat.div_add_mod (x * y) 18446744073709551616
    have h2 := Nat.div_add_mod (x * y / 18446744073709551616) z
    rw [← hm] at h2
    generalize x * y / 18446744073709551616 = H at *
    generalize x * y % 18446744073709551616 = L at *
    rw [← h1]
    conv => rhs; rw [← h2]
    rw [Nat.mul_add, Nat.mul_left_comm, Nat.add_assoc, Nat.mul_add_mod, Nat.mul_comm]
  have hd : ∃ q : Int, ∀ w : World, Calls Tryz.prog 118 #[.int .u64 (m : Int), .int .u64 (lo64 x y), .int .u64 (z : Int)] w fun e w' => e = .returned (.tuple #[.int .u64 q, .int .u64 (rem64 x y z)]) ∧ Below w.heap.size w w' := by
    refine ⟨(((m * 18446744073709551616 + x * y % 18446744073709551616) / z : Nat) : Int), fun w => ?_⟩
    have h := Div64_any m (x * y % 18446744073709551616) z w hmz (Nat.mod_lt _ (by omega)) hz
    rw [he] at h
    exact h
  obtain ⟨q, hd⟩ := hd
  have HD := Lib.hid hd; clear hd
  clear hm he hz hmz
  go_enter Tryz.func99, Tryz.ntmps99
  go_wp2_with (go_at_call 118; (with_reducible refine (HD.out _).mono ?_); rintro e w' ⟨rfl, hb⟩)
  go_ret
  exact ⟨rfl, hb⟩
end Go.Proofs.YtdlbnioidfhhcaaGreat
