/- Plain facts on the extended Euclidean algorithm. No program in sight. -/
import Derived.Test.YtdlbnioidfhhcaaGreatInt
namespace Go.Proofs.YtdlbnioidfhhcaaGreat
namespace Num
/-- the rows of the extended Euclidean algorithm for a and b: remainders r0, r1; s the sign; magnitudes of the coefficients -/
structure Euc (a b r0 r1 : Nat) (s : Bool) (X0 X1 Y0 Y1 : Nat) : Prop where
  x : X1 * r0 + X0 * r1 = b
  y : Y1 * r0 + Y0 * r1 = a
  e0 : (a : Int) * (if s then (X0 : Int) else -X0) + b * (if s then -(Y0 : Int) else Y0) = r0
  e1 : (a : Int) * (if s then -(X1 : Int) else X1) + b * (if s then (Y1 : Int) else -Y1) = r1
  g : Nat.gcd r0 r1 = Nat.gcd a b
  r : 0 < r0 ∨ (r0 = 0 ∧ X1 = 0 ∧ Y1 = 1)
  b0 : X0 ≤ b
  b1 : Y0 ≤ max a 1
  q0 : r0 ≤ a ∨ r0 ≤ b
  q1 : r1 ≤ b
  m : (X0 = 1 ∧ X1 = 0) ∨ (r1 < r0 ∧ 1 ≤ X1)
  l : (X0 = 1 ∧ X1 = 0) ∨ X0 < X1 ∨ 0 < r1
def sg (s : Bool) (n : Nat) : Int := if s then (n : Int) else -(n : Int)
theorem Euc.start {a b : Nat} (hb : 0 < b) : Euc a b a b true 1 0 0 1 where
  x := by omega
  y := by omega
  e0 := by simp
  e1 := by simp
  g := rfl
  r := by omega
  b0 := hb
  b1 := by omega
  q0 := .inl (Nat.le_refl _)
  q1 := Nat.le_refl _
  m := .inl ⟨rfl, rfl⟩
  l := .inl ⟨rfl, rfl⟩
theorem Euc.step {a b r0 r1 : Nat} {s : Bool} {X0 X1 Y0 Y1 : Nat} (h : Euc a b r0 r1 s X0 X1 Y0 Y1) (h1 : 0 < r1) :
    Euc a b r1 (r0 % r1) (!s) X1 (X0 + r0 / r1 * X1) Y1 (Y0 + r0 / r1 * Y1) := by
  have hd : r1 * (r0 / r1) + r0 % r1 = r0 := Nat.div_add_mod r0 r1
  obtain ⟨q, hq⟩ : ∃ q, r0 / r1 = q := ⟨_, rfl⟩
  obtain ⟨r2, hr⟩ : ∃ r2, r0 % r1 = r2 := ⟨_, rfl⟩
  have hlt : r2 < r1 := by rw [← hr]; exact Nat.mod_lt _ h1
  have hg : Nat.gcd r1 r2 = Nat.gcd a b := by rw [← h.g, ← hr, Nat.gcd_comm r0 r1, Nat.gcd_rec r1 r0, Nat.gcd_comm]
  rw [hq, hr] at hd ⊢
  have hx := h.x
  have hy := h.y
  rw [← hd] at hx hy
  have hdi : (r1 : Int) * q + r2 = r0 := by rw [← hd]; simp
  have e0 := h.e0
  have e1 := h.e1
  have X1b : X1 ≤ b := by
    rcases h.r with hr | ⟨hr, hr1, hr2⟩
    · have := Nat.le_mul_of_pos_right X1 hr
      have := h.x
      omega
    · omega
  have Y1b : Y1 ≤ max a 1 := by
    rcases h.r with hr | ⟨hr, hr1, hr2⟩
    · have := Nat.le_mul_of_pos_right Y1 hr
      have := h.y
      omega
    · omega
  refine ⟨?_, ?_, ?_, ?_, hg, .inl h1, X1b, Y1b, .inr h.q1, by have := h.q1; omega, ?_, ?_⟩
  · rw [← hx]
    simp only [Nat.add_mul, Nat.mul_add]
    have : q * X1 * r1 = X1 * (r1 * q) := by rw [Nat.mul_comm q X1, Nat.mul_assoc, Nat.mul_comm q r1]
    omega
  · rw [← hy]
    simp only [Nat.add_mul, Nat.mul_add]
    have : q * Y1 * r1 = Y1 * (r1 * q) := by rw [Nat.mul_comm q Y1, Nat.mul_assoc, Nat.mul_comm q r1]
    omega
  · cases s
    · simpa using e1
    · simpa using e1
  · cases s
    · simp only [Bool.not_false, if_true, Bool.false_eq_true, if_false] at e0 e1 ⊢
      have : (r2 : Int) = r0 - q * r1 := by rw [← hdi, Int.mul_comm]; omega
      rw [this, ← e0, ← e1]
      push_cast
      simp only [Int.mul_add, Int.neg_add, Int.mul_neg]
      have t1 : (a : Int) * (q * X1) = q * (a * X1) := by rw [← Int.mul_assoc, Int.mul_comm (a : Int) q, Int.mul_assoc]
      have t2 : (b : Int) * (q * Y1) = q * (b * Y1) := by rw [← Int.mul_assoc, Int.mul_comm (b : Int) q, Int.mul_assoc]
      omega
    · simp only [Bool.not_true, if_true, Bool.false_eq_true, if_false] at e0 e1 ⊢
      have : (r2 : Int) = r0 - q * r1 := by rw [← hdi, Int.mul_comm]; omega
      rw [this, ← e0, ← e1]
      push_cast
      simp only [Int.mul_add, Int.neg_add, Int.mul_neg]
      have t1 : (a : Int) * (q * X1) = q * (a * X1) := by rw [← Int.mul_assoc, Int.mul_comm (a : Int) q, Int.mul_assoc]
      have t2 : (b : Int) * (q * Y1) = q * (b * Y1) := by rw [← Int.mul_assoc, Int.mul_comm (b : Int) q, Int.mul_assoc]
      omega
  · right
    rcases h.m with ⟨m1, m2⟩ | ⟨m1, m2⟩
    · exact ⟨hlt, by omega⟩
    · exact ⟨hlt, by
        rcases Nat.eq_zero_or_pos X0 with h0 | h0
        · have : 1 ≤ q := by
            rcases Nat.eq_zero_or_pos q with h' | h'
            · rw [h'] at hd; omega
            · exact h'
          have := Nat.mul_le_mul this m2
          omega
        · omega⟩
  · right
    rcases h.m with ⟨m1, m2⟩ | ⟨m1, m2⟩
    · left; subst m1; subst m2; simp
    · rcases Nat.eq_zero_or_pos r2 with h0 | h0
      · left
        have hq2 : 2 ≤ q := by
          rcases Nat.lt_or_ge q 2 with h' | h'
          · have : q = 0 ∨ q = 1 := by omega
            rcases this with e | e
            · rw [e] at hd; omega
            · rw [e] at hd; omega
          · exact h'
        have := Nat.mul_le_mul_right X1 hq2
        omega
      · exact .inr h0
/-- the end: the coefficients of the greatest common divisor -/
theorem Euc.fin {a b r0 : Nat} {s : Bool} {X0 X1 Y0 Y1 : Nat} (h : Euc a b r0 0 s X0 X1 Y0 Y1) (hb : 0 < b) :
    r0 = Nat.gcd a b ∧ X1 = b / Nat.gcd a b ∧ Y1 = a / Nat.gcd a b ∧ X0 < X1 ∧ 0 < r0 := by
  have hx := h.x
  have hy := h.y
  rw [Nat.mul_zero, Nat.add_zero] at hx hy
  have hg : r0 = Nat.gcd a b := by rw [← h.g, Nat.gcd_zero_right]
  have hr : 0 < r0 := by
    rcases Nat.eq_zero_or_pos r0 with h0 | h0
    · rw [h0, Nat.mul_zero] at hx; omega
    · exact h0
  have h1 : 0 < X1 := by
    rcases Nat.eq_zero_or_pos X1 with h0 | h0
    · rw [h0, Nat.zero_mul] at hx; omega
    · exact h0
  refine ⟨hg, ?_, ?_, ?_, hr⟩
  · rw [← hg, ← hx, Nat.mul_div_cancel _ hr]
  · rw [← hg, ← hy, Nat.mul_div_cancel _ hr]
  · rcases h.l with ⟨h2, h3⟩ | h2 | h2
    · omega
    · exact h2
    · omega
theorem sg_abs (s : Bool) (n : Nat) : (sg s n).natAbs = n := by cases s <;> simp [sg]
theorem sg_mul (s : Bool) (q n : Nat) : (q : Int) * sg s n = sg s (q * n) := by cases s <;> simp [sg, Int.mul_neg]
theorem sg_sub (s : Bool) (m n : Nat) : sg s m - sg (!s) n = sg s (m + n) := by cases s <;> simp [sg] <;> omega
theorem zok_sg {s : Bool} {n k : Nat} (h : n ≤ k) (hk : blen k ≤ 128) : ZOk (sg s n) := by
  unfold ZOk
  rw [sg_abs]
  exact Nat.le_trans (blen_mono h) hk
theorem Euc.bez {a b r0 r1 : Nat} {s : Bool} {X0 X1 Y0 Y1 : Nat} (h : Euc a b r0 r1 s X0 X1 Y0 Y1) : (a : Int) * sg s X0 + b * sg (!s) Y0 = r0 := by
  have := h.e0
  cases s <;> simpa [sg] using this
theorem Euc.out1 {a b r0 : Nat} {s : Bool} {X0 X1 Y0 Y1 : Nat} (h : Euc a b r0 0 s X0 X1 Y0 Y1) (hb : 0 < b) (hn : 0 ≤ sg s X0) :
    (a : Int) * sg s X0 + b * sg (!s) Y0 = (Nat.gcd a b : Nat) ∧ 0 ≤ sg s X0 ∧ sg s X0 < ((b / Nat.gcd a b : Nat) : Int) ∧ (sg (!s) Y0).natAbs ≤ max a 1 := by
  obtain ⟨hg, hX1, hY1, hlt, hr0⟩ := h.fin hb
  refine ⟨by rw [h.bez, hg], hn, ?_, by rw [sg_abs]; exact h.b1⟩
  rw [← hX1]
  have : sg s X0 ≤ X0 := by cases s <;> simp [sg] <;> omega
  omega
theorem Euc.out2 {a b r0 : Nat} {s : Bool} {X0 X1 Y0 Y1 : Nat} (h : Euc a b r0 0 s X0 X1 Y0 Y1) (hb : 0 < b) (hn : sg s X0 < 0) :
    (a : Int) * (sg s X0 + ((b / Nat.gcd a b : Nat) : Int)) + b * (sg (!s) Y0 - ((a / Nat.gcd a b : Nat) : Int)) = (Nat.gcd a b : Nat) ∧ 0 ≤ sg s X0 + ((b / Nat.gcd a b : Nat) : Int) ∧
      sg s X0 + ((b / Nat.gcd a b : Nat) : Int) < ((b / Nat.gcd a b : Nat) : Int) ∧ (sg (!s) Y0 - ((a / Nat.gcd a b : Nat) : Int)).natAbs ≤ max a 1 := by
  obtain ⟨hg, hX1, hY1, hlt, hr0⟩ := h.fin hb
  have hx := h.x
  have hy := h.y
  rw [Nat.mul_zero, Nat.add_zero] at hx hy
  rw [← hX1, ← hY1]
  have hab : (a : Int) * X1 = b * Y1 := by
    rw [← hx, ← hy]
    push_cast
    rw [Int.mul_comm (Y1 : Int) r0, Int.mul_assoc, Int.mul_comm (X1 : Int) r0, Int.mul_assoc, Int.mul_comm (Y1 : Int)]
  have hY : Y1 ≤ max a 1 := by rw [hY1]; have := Nat.div_le_self a (Nat.gcd a b); omega
  refine ⟨?_, ?_, by omega, ?_⟩
  · rw [Int.mul_add, Int.mul_sub, hab, ← hg, ← h.bez]; omega
  · have : -(X0 : Int) ≤ sg s X0 := by cases s <;> simp [sg] <;> omega
    omega
  · have := h.b1
    cases s
    · simp only [sg, Bool.not_false, if_true]; omega
    · simp [sg] at hn; omega
/-- everything that a step makes fits -/
theorem Euc.oks {a b r0 r1 : Nat} {s : Bool} {X0 X1 Y0 Y1 : Nat} (h : Euc a b r0 r1 s X0 X1 Y0 Y1) (h1 : 0 < r1) (ha : blen a ≤ 128) (hb : blen b ≤ 128) :
    ZOk (sg s X0) ∧ ZOk (sg (!s) X1) ∧ blen (r0 / r1) ≤ 128 ∧ ZOk (((r0 / r1 : Nat) : Int) * sg (!s) X1) ∧ ZOk (sg s X0 - ((r0 / r1 : Nat) : Int) * sg (!s) X1) ∧
      ZOk (sg (!s) Y0) ∧ ZOk (sg s Y1) ∧ ZOk (((r0 / r1 : Nat) : Int) * sg s Y1) ∧ ZOk (sg (!s) Y0 - ((r0 / r1 : Nat) : Int) * sg s Y1) := by
  have hs := h.step h1
  have x2 : X0 + r0 / r1 * X1 ≤ b := by
    have := hs.x
    have := Nat.le_mul_of_pos_right (X0 + r0 / r1 * X1) h1
    omega
  have y2 : Y0 + r0 / r1 * Y1 ≤ a := by
    have := hs.y
    have := Nat.le_mul_of_pos_right (Y0 + r0 / r1 * Y1) h1
    omega
  have hm : blen (max a 1) ≤ 128 := by
    rcases Nat.le_total a 1 with h' | h'
    · rw [Nat.max_eq_right h']; decide
    · rw [Nat.max_eq_left h']; exact ha
  have hq : r0 / r1 ≤ r0 := Nat.div_le_self _ _
  rw [sg_mul, sg_mul, sg_sub]
  have e : sg (!s) Y0 - sg s (r0 / r1 * Y1) = sg (!s) (Y0 + r0 / r1 * Y1) := by
    have := sg_sub (!s) Y0 (r0 / r1 * Y1)
    rwa [Bool.not_not] at this
  rw [e]
  refine ⟨zok_sg h.b0 hb, zok_sg hs.b0 hb, ?_, zok_sg (by omega) hb, zok_sg x2 hb, zok_sg h.b1 hm, zok_sg hs.b1 hm, zok_sg (by omega) hm, zok_sg (k := max a 1) (by omega) hm⟩
  rcases h.q0 with h0 | h0
  · exact Nat.le_trans (blen_mono (Nat.le_trans hq h0)) ha
  · exact Nat.le_trans (blen_mono (Nat.le_trans hq h0)) hb
end Num
end Go.Proofs.YtdlbnioidfhhcaaGreat
