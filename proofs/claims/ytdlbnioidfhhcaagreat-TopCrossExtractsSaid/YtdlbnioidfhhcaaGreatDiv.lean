/- The long division of numbers by digits: plain facts. No program in sight. -/
import Derived.Test.YtdlbnioidfhhcaaGreatNum
namespace Go.Proofs.YtdlbnioidfhhcaaGreat.Num

/-- digits of a number that is scaled by a power of 2 -/
theorem dg_scale_zero (a s : Nat) : dg (a * 2 ^ s) 0 = dg a 0 * 2 ^ s % 256 := by
  unfold dg
  simp only [Nat.pow_zero, Nat.div_one]
  rw [show ((2 : Int) ^ s) = ((2 ^ s : Nat) : Int) from by simp, ← Int.natCast_mul, show (256 : Int) = ((256 : Nat) : Int) from rfl, ← Int.natCast_emod]
  congr 1
  rw [Nat.mod_mul_mod]
theorem dg_scale_succ (a s i : Nat) (hs : s ≤ 7) : dg (a * 2 ^ s) (i + 1) = dg a (i + 1) * 2 ^ s % 256 + dg a i / 2 ^ (8 - s) := by
  unfold dg
  rw [show ((2 : Int) ^ s) = ((2 ^ s : Nat) : Int) from by simp, show ((2 : Int) ^ (8 - s)) = ((2 ^ (8 - s) : Nat) : Int) from by simp, ← Int.natCast_mul, ← Int.natCast_ediv,
    show (256 : Int) = ((256 : Nat) : Int) from rfl, ← Int.natCast_emod, ← Int.natCast_add]
  congr 1
  have e : a * 2 ^ s / 256 ^ (i + 1) = (a / 256 ^ i) * 2 ^ s / 256 := by
    rw [Nat.pow_succ, ← Nat.div_div_eq_div_mul]
    have hp : 0 < 256 ^ i := Nat.pow_pos (by omega)
    have h1 := Nat.div_add_mod a (256 ^ i)
    have h2 := Nat.mod_lt a hp
    generalize a / 256 ^ i = A at *
    generalize a % 256 ^ i = r at *
    rw [← h1, Nat.add_mul, Nat.mul_assoc, Nat.mul_add_div hp]
    have h3 : r * 2 ^ s / 256 ^ i < 2 ^ s := by
      rw [Nat.div_lt_iff_lt_mul hp, Nat.mul_comm]
      exact (Nat.mul_lt_mul_left (Nat.two_pow_pos s)).2 h2
    generalize r * 2 ^ s / 256 ^ i = x at *
    have e8 : 256 = 2 ^ s * 2 ^ (8 - s) := by rw [← Nat.pow_add, show s + (8 - s) = 8 from by omega]
    conv => lhs; rw [e8]
    conv => rhs; rw [e8]
    rw [← Nat.div_div_eq_div_mul, ← Nat.div_div_eq_div_mul, Nat.mul_div_cancel _ (Nat.two_pow_pos s)]
    congr 1
    rw [Nat.mul_comm, Nat.mul_add_div (Nat.two_pow_pos s), Nat.div_eq_of_lt h3, Nat.add_zero]
  have e2 : a / 256 ^ (i + 1) = a / 256 ^ i / 256 := by rw [Nat.pow_succ, ← Nat.div_div_eq_div_mul]
  rw [e, e2]
  generalize a / 256 ^ i = A
  rcases (by omega : s = 0 ∨ s = 1 ∨ s = 2 ∨ s = 3 ∨ s = 4 ∨ s = 5 ∨ s = 6 ∨ s = 7) with h | h | h | h | h | h | h | h <;> subst h <;> simp <;> omega
/-- the low bits of the first part are zero: the or is a sum -/
theorem scale_or (s : Nat) (hs : s ≤ 7) (v : Int) (hv : 0 ≤ v ∧ v ≤ 255) : (v * 2 ^ s % 256) % 2 ^ s = 0 ∧ 0 ≤ v * 2 ^ s % 256 ∧ v * 2 ^ s % 256 < 256 ∧ 0 ≤ v / 2 ^ (8 - s) ∧ v / 2 ^ (8 - s) < 2 ^ s ∧ 0 ≤ v * 2 ^ s ∧ v * 2 ^ s ≤ 32640 := by
  rcases (by omega : s = 0 ∨ s = 1 ∨ s = 2 ∨ s = 3 ∨ s = 4 ∨ s = 5 ∨ s = 6 ∨ s = 7) with h | h | h | h | h | h | h | h <;> subst h <;> simp <;> omega

/-- digits determine a function -/
theorem ds_digit {f : Nat → Int} {n : Nat} {x : Nat} (hd : ∀ k, k < n → 0 ≤ f k ∧ f k < 256) (h : ds 256 f 0 n = (x : Int)) : ∀ k, k < n → f k = dg x k := by
  intro k hk
  have hd' : ∀ m, m < n → 0 ≤ f (0 + m) ∧ f (0 + m) < 256 := fun m hm => by simpa using hd m hm
  have e1 : ds 256 f 0 n = ds 256 f 0 k + 256 ^ k * (f k + 256 * ds 256 f (k + 1) (n - k - 1)) := by
    have h1 := ds_add 256 f 0 k (n - k)
    rw [show k + (n - k) = n from by omega, Nat.zero_add] at h1
    rw [h1]
    congr 2
    have h2 := ds_head 256 f k (n - k - 1)
    rw [show n - k - 1 + 1 = n - k from by omega] at h2
    exact h2
  have b := ds_bound (B := 256) (by omega) (f := f) (lo := 0) (n := k) (fun m hm => hd' m (by omega))
  have e2 : ((x / 256 ^ k : Nat) : Int) = f k + 256 * ds 256 f (k + 1) (n - k - 1) := by
    rw [Int.natCast_ediv, ← h, e1, Int.natCast_pow, show ((256 : Nat) : Int) = 256 from rfl, Int.add_mul_ediv_left _ _ (Int.ne_of_gt (Int.pow_pos (by omega))), Int.ediv_eq_zero_of_lt b.1 b.2, Int.zero_add]
  unfold dg
  rw [Int.natCast_emod, e2]
  have := hd k hk
  omega

/-- the sum of n digits of a number from j on -/
theorem ds_dg (x j n : Nat) : ds 256 (dg x) j n = ((x / 256 ^ j % 256 ^ n : Nat) : Int) := by
  have h := ds_digits 256 (by omega) (x / 256 ^ j) n
  rw [← h]
  apply ds_congr
  intro k hk
  simp only [Nat.zero_add, dg]
  rw [Nat.pow_add, ← Nat.div_div_eq_div_mul]

/-- what is subtracted, digit by digit -/
structure Sub1 (R R' D : Nat → Int) (j i : Nat) (g carry borrow : Int) : Prop where
  sum : ds 256 R' j i = ds 256 R j i - g * ds 256 D 0 i + (carry + borrow) * 256 ^ i
  out : ∀ m, m < j ∨ j + i ≤ m → R' m = R m
  dig : ∀ m, 0 ≤ R' m ∧ R' m < 256
  c0 : 0 ≤ carry
  c1 : carry ≤ 255
  b0 : 0 ≤ borrow
  b1 : borrow ≤ 1
theorem Sub1.zero {R D : Nat → Int} (hd : ∀ m, 0 ≤ R m ∧ R m < 256) (j : Nat) (g : Int) : Sub1 R R D j 0 g 0 0 :=
  ⟨by simp [ds], fun _ _ => rfl, hd, by omega, by omega, by omega, by omega⟩
theorem Sub1.step {R R' D : Nat → Int} {j i : Nat} {g carry borrow x y b : Int} (h : Sub1 R R' D j i g carry borrow) (hD : 0 ≤ D i ∧ D i ≤ 255) (hg : 0 ≤ g ∧ g ≤ 255)
    (hx : x = R' (i + j) - (carry + g * D i) % 256 - borrow) (hy : x < 0 ∧ y = x + 256 ∧ b = 1 ∨ 0 ≤ x ∧ y = x ∧ b = 0) :
    Sub1 R (upd R' (i + j) y) D j (i + 1) g ((carry + g * D i) / 256) b := by
  have p0 : 0 ≤ g * D i := Int.mul_nonneg hg.1 hD.1
  have p1 : g * D i ≤ 65025 := by have := Int.mul_le_mul hg.2 hD.2 hD.1 (by omega : (0 : Int) ≤ 255); omega
  have c0 := h.c0; have c1 := h.c1; have b0 := h.b0; have b1 := h.b1
  have d := h.dig (i + j)
  refine ⟨?_, fun m hm => ?_, fun m => ?_, by omega, by omega, by omega, by omega⟩
  · rw [ds_succ, ds_succ, ds_succ, ds_upd_out _ _ _ _ _ _ (by omega), h.sum, Nat.add_comm j i, upd_same, Nat.zero_add, Int.pow_succ, ← h.out (i + j) (by omega)]
    have e : y = R' (i + j) - g * D i - carry - borrow + 256 * ((carry + g * D i) / 256 + b) := by omega
    rw [e]
    simp only [Int.sub_mul, Int.add_mul, Int.mul_add, Int.mul_assoc]
    have e2 : ∀ u v : Int, u * (256 ^ i * 256) = 256 * (u * 256 ^ i) := fun u _ => by rw [Int.mul_comm (256 ^ i) 256, Int.mul_left_comm]
    rw [e2 _ 0, e2 _ 0]
    generalize (256 : Int) ^ i = P
    generalize (carry + g * D i) / 256 * P = Z
    omega
  · rw [upd_other _ _ (by omega)]; exact h.out m (by omega)
  · by_cases e : m = i + j
    · rw [e, upd_same]; omega
    · rw [upd_other _ _ e]; exact h.dig m

/-- what is added back, digit by digit -/
structure Add1 (R R' D : Nat → Int) (j i : Nat) (c : Int) : Prop where
  sum : ds 256 R' j i = ds 256 R j i + ds 256 D 0 i - c * 256 ^ i
  out : ∀ m, m < j ∨ j + i ≤ m → R' m = R m
  dig : ∀ m, 0 ≤ R' m ∧ R' m < 256
  c0 : 0 ≤ c
  c1 : c ≤ 1
theorem Add1.zero {R D : Nat → Int} (hd : ∀ m, 0 ≤ R m ∧ R m < 256) (j : Nat) : Add1 R R D j 0 0 :=
  ⟨by simp [ds], fun _ _ => rfl, hd, by omega, by omega⟩
theorem Add1.step {R R' D : Nat → Int} {j i : Nat} {c : Int} (h : Add1 R R' D j i c) (hD : 0 ≤ D i ∧ D i ≤ 255) :
    Add1 R (upd R' (i + j) ((c + (R' (i + j) + D i)) % 256)) D j (i + 1) ((c + (R' (i + j) + D i)) / 256) := by
  have c0 := h.c0; have c1 := h.c1
  have d := h.dig (i + j)
  refine ⟨?_, fun m hm => ?_, fun m => ?_, by omega, by omega⟩
  · rw [ds_succ, ds_succ, ds_succ, ds_upd_out _ _ _ _ _ _ (by omega), h.sum, Nat.add_comm j i, upd_same, Nat.zero_add, Int.pow_succ, ← h.out (i + j) (by omega)]
    have e : (c + (R' (i + j) + D i)) % 256 = c + (R' (i + j) + D i) - 256 * ((c + (R' (i + j) + D i)) / 256) := by omega
    rw [e]
    have e2 : ∀ u : Int, u * (256 ^ i * 256) = 256 * (u * 256 ^ i) := fun u => by rw [Int.mul_comm (256 ^ i) 256, Int.mul_left_comm]
    rw [e2]
    simp only [Int.sub_mul, Int.add_mul, Int.mul_assoc]
    omega
  · rw [upd_other _ _ (by omega)]; exact h.out m (by omega)
  · by_cases e : m = i + j
    · rw [e, upd_same]; omega
    · rw [upd_other _ _ e]; exact h.dig m

/-- the state of the division: the digits from J on hold the remainder of the number's upper part -/
structure DInv (a b : Nat) (n la J : Nat) (R : Nat → Int) : Prop where
  hi : ds 256 R J n = ((a / 256 ^ J % b : Nat) : Int)
  low : ∀ m, m < J → R m = dg a m
  zero : ∀ m, J + n ≤ m → m ≤ la → R m = 0
  dig : ∀ m, 0 ≤ R m ∧ R m < 256
/-- within a step: the guess is not too small -/
structure DMid (a b : Nat) (n la j : Nat) (R D : Nat → Int) (g top : Int) : Prop where
  sum : ((a / 256 ^ j % 256 + 256 * (a / 256 ^ (j + 1) % b) : Nat) : Int) = ds 256 R j n + top * 256 ^ n + g * b
  le : (((a / 256 ^ j % 256 + 256 * (a / 256 ^ (j + 1) % b)) / b : Nat) : Int) ≤ g
  low : ∀ m, m < j → R m = dg a m
  zero : ∀ m, j + n < m → m ≤ la → R m = 0
  dig : ∀ m, 0 ≤ R m ∧ R m < 256
  t0 : -256 ≤ top
  t1 : top ≤ 256
  g0 : 0 ≤ g
  g1 : g ≤ 255
theorem DInv.window {a b n la j : Nat} {R : Nat → Int} (h : DInv a b n la (j + 1) R) :
    ds 256 R j (n + 1) = ((a / 256 ^ j % 256 + 256 * (a / 256 ^ (j + 1) % b) : Nat) : Int) := by
  rw [ds_head, h.hi, h.low j (by omega)]; unfold dg; omega
theorem DInv.guess {a b n la j : Nat} {R D : Nat → Int} {t : Int} (h : DInv a b (n + 1) la (j + 1) R) (hb : (b : Int) = ds 256 D 0 (n + 1)) (hD : ∀ m, 0 ≤ D m ∧ D m ≤ 255) (hn : 1 ≤ D n)
    (ht : t = (R (j + n + 1) * 256 + R (j + n)) / D n) : (((a / 256 ^ j % 256 + 256 * (a / 256 ^ (j + 1) % b)) / b : Nat) : Int) ≤ min t 255 ∧ 0 ≤ min t 255 := by
  have hw := h.window
  generalize hW : a / 256 ^ j % 256 + 256 * (a / 256 ^ (j + 1) % b) = Wn at *
  have p : (0 : Int) < 256 ^ n := Int.pow_pos (by omega)
  have bD := ds_bound (B := 256) (by omega) (f := D) (lo := 0) (n := n) (fun k _ => by have := hD (0 + k); omega)
  have hb' : (b : Int) = ds 256 D 0 n + D n * 256 ^ n := by rw [hb, ds_succ, Nat.zero_add]
  have hbp : 0 < b := by
    have : (0 : Int) < D n * 256 ^ n := Int.mul_pos (by omega) p
    omega
  have h255 : Wn / b < 256 := by
    rw [Nat.div_lt_iff_lt_mul hbp, ← hW]
    have := Nat.mod_lt (a / 256 ^ (j + 1)) hbp
    omega
  have e1 : (Wn : Int) = ds 256 R j n + (R (j + n) + 256 * R (j + n + 1)) * 256 ^ n := by
    rw [← hw, ds_succ, ds_succ, Int.pow_succ, Int.add_mul, Int.mul_comm (256 ^ n) 256, ← Int.mul_assoc, Int.mul_comm (R (j + (n + 1))) 256]
    rw [show j + (n + 1) = j + n + 1 from by omega]; omega
  have bR := ds_bound (B := 256) (by omega) (f := R) (lo := j) (n := n) (fun k _ => h.dig (j + k))
  have r0 := h.dig (j + n)
  have r1 := h.dig (j + n + 1)
  have hq : ((Wn / b : Nat) : Int) ≤ t := by
    rw [ht, Int.le_ediv_iff_mul_le (by omega)]
    have h1 : (Wn / b) * b ≤ Wn := Nat.div_mul_le_self _ _
    have h2 : ((Wn / b : Nat) : Int) * (b : Int) ≤ (Wn : Int) := by exact_mod_cast h1
    have h3 : ((Wn / b : Nat) : Int) * (D n * 256 ^ n) ≤ ((Wn / b : Nat) : Int) * (b : Int) := Int.mul_le_mul_of_nonneg_left (by omega) (Int.natCast_nonneg _)
    have h4 : ((Wn / b : Nat) : Int) * D n * 256 ^ n < (R (j + n) + 256 * R (j + n + 1) + 1) * 256 ^ n := by
      rw [Int.mul_assoc, Int.add_mul _ 1]; omega
    have h5 := Int.lt_of_mul_lt_mul_right h4 (by omega)
    omega
  have t0 : 0 ≤ t := by rw [ht]; exact Int.ediv_nonneg (by omega) (by omega)
  omega
theorem DInv.guess1 {a b n la j : Nat} {R D : Nat → Int} (h : DInv a b n la (j + 1) R) (hb : (b : Int) = ds 256 D 0 n) (hD : ∀ m, 0 ≤ D m ∧ D m ≤ 255) (hp : 0 < n) (hn : 1 ≤ D (n - 1)) :
    (((a / 256 ^ j % 256 + 256 * (a / 256 ^ (j + 1) % b)) / b : Nat) : Int) ≤ min ((R (j + n) * 256 + R (j + n - 1)) / D (n - 1)) 255 ∧ 0 ≤ min ((R (j + n) * 256 + R (j + n - 1)) / D (n - 1)) 255 := by
  obtain ⟨m, rfl⟩ : ∃ m, n = m + 1 := ⟨n - 1, by omega⟩
  exact h.guess hb hD hn rfl
theorem DMid.start {a b n la j : Nat} {R R' D : Nat → Int} {g carry borrow : Int} (h : DInv a b n la (j + 1) R) (hs : Sub1 R R' D j n g carry borrow) (hb : (b : Int) = ds 256 D 0 n)
    (hg : (((a / 256 ^ j % 256 + 256 * (a / 256 ^ (j + 1) % b)) / b : Nat) : Int) ≤ g ∧ 0 ≤ g ∧ g ≤ 255) : DMid a b n la j R' D g (R' (j + n) - carry - borrow) := by
  have hw := h.window
  have d := hs.dig (j + n)
  have c0 := hs.c0; have c1 := hs.c1; have b0 := hs.b0; have b1 := hs.b1
  refine ⟨?_, hg.1, fun m hm => ?_, fun m h1 h2 => ?_, hs.dig, by omega, by omega, hg.2.1, hg.2.2⟩
  · rw [← hw, ds_succ, hs.sum, hs.out (j + n) (by omega), hb, Int.sub_mul, Int.sub_mul, Int.add_mul]; omega
  · rw [hs.out m (by omega)]; exact h.low m (by omega)
  · rw [hs.out m (by omega)]; exact h.zero m (by omega) h2
theorem DMid.back {a b n la j : Nat} {R R' D : Nat → Int} {g top c : Int} (h : DMid a b n la j R D g top) (ha : Add1 R R' D j n c) (hb : (b : Int) = ds 256 D 0 n) (hbp : 0 < b) (ht : top < 0) :
    DMid a b n la j R' D (g - 1) (top + c) := by
  have c0 := ha.c0; have c1 := ha.c1
  have bR := ds_bound (B := 256) (by omega) (f := R) (lo := j) (n := n) (fun k _ => h.dig (j + k))
  have hlt : (((a / 256 ^ j % 256 + 256 * (a / 256 ^ (j + 1) % b)) / b : Nat) : Int) < g := by
    rw [Int.natCast_ediv]
    apply Int.ediv_lt_of_lt_mul (by omega)
    rw [h.sum]
    have : top * 256 ^ n ≤ (-1) * 256 ^ n := Int.mul_le_mul_of_nonneg_right (by omega) (by omega)
    omega
  have h0 : (0 : Int) ≤ (((a / 256 ^ j % 256 + 256 * (a / 256 ^ (j + 1) % b)) / b : Nat) : Int) := Int.natCast_nonneg _
  have g1 := h.g1; have t0 := h.t0
  refine ⟨?_, by omega, fun m hm => ?_, fun m h1 h2 => ?_, ha.dig, by omega, by omega, by omega, by omega⟩
  · rw [h.sum, ha.sum, ← hb, Int.sub_mul, Int.add_mul]; omega
  · rw [ha.out m (by omega)]; exact h.low m hm
  · rw [ha.out m (by omega)]; exact h.zero m h1 h2
theorem DMid.done {a b n la j : Nat} {R D : Nat → Int} {g top : Int} (h : DMid a b n la j R D g top) (hbp : 0 < b) (hbn : b ≤ 256 ^ n) (ht : 0 ≤ top) :
    g = dg (a / b) j ∧ DInv a b n la j (upd R (j + n) top) ∧ top = 0 := by
  have bR := ds_bound (B := 256) (by omega) (f := R) (lo := j) (n := n) (fun k _ => h.dig (j + k))
  have hs := h.sum
  have hle := h.le
  generalize hW : a / 256 ^ j % 256 + 256 * (a / 256 ^ (j + 1) % b) = Wn at *
  have p : (0 : Int) < 256 ^ n := Int.pow_pos (by omega)
  have ht2 : 0 ≤ top * 256 ^ n := Int.mul_nonneg ht (by omega)
  have hge : g ≤ ((Wn / b : Nat) : Int) := by
    rw [Int.natCast_ediv, Int.le_ediv_iff_mul_le (by omega)]; omega
  have hg : g = ((Wn / b : Nat) : Int) := by omega
  have hmod : ds 256 R j n + top * 256 ^ n = ((Wn % b : Nat) : Int) := by
    have h1 := Nat.div_add_mod Wn b
    have h2 : (b : Int) * ((Wn / b : Nat) : Int) + ((Wn % b : Nat) : Int) = (Wn : Int) := by exact_mod_cast h1
    rw [hs, ← hg, Int.mul_comm] at h2; omega
  have hlt := Nat.mod_lt Wn hbp
  have hpn : ((256 : Int) ^ n) = ((256 ^ n : Nat) : Int) := by simp
  have htop : top = 0 := by
    rcases Int.lt_or_le 0 top with h1 | h1
    · have : 1 * 256 ^ n ≤ top * 256 ^ n := Int.mul_le_mul_of_nonneg_right (by omega) (by omega)
      omega
    · omega
  have ha : a / 256 ^ j = 256 * (a / 256 ^ (j + 1)) + a / 256 ^ j % 256 := by
    rw [Nat.pow_succ, ← Nat.div_div_eq_div_mul]; omega
  have hdiv : a / 256 ^ j / b = 256 * (a / 256 ^ (j + 1) / b) + Wn / b ∧ a / 256 ^ j % b = Wn % b := by
    have h1 := Nat.div_add_mod (a / 256 ^ (j + 1)) b
    have e : a / 256 ^ j = b * (256 * (a / 256 ^ (j + 1) / b)) + Wn := by
      rw [ha, ← hW]
      have : 256 * (a / 256 ^ (j + 1)) = 256 * (b * (a / 256 ^ (j + 1) / b)) + 256 * (a / 256 ^ (j + 1) % b) := by rw [← Nat.mul_add, h1]
      rw [this, Nat.mul_left_comm 256 b]; omega
    constructor
    · conv => lhs; rw [e]
      rw [Nat.mul_add_div hbp]
    · conv => lhs; rw [e]
      rw [Nat.mul_add_mod]
  have h256 : Wn / b < 256 := by
    rw [Nat.div_lt_iff_lt_mul hbp, ← hW]
    have := Nat.mod_lt (a / 256 ^ (j + 1)) hbp
    omega
  refine ⟨?_, ⟨?_, fun m hm => ?_, fun m h1 h2 => ?_, fun m => ?_⟩, htop⟩
  · rw [hg]; unfold dg
    rw [show a / b / 256 ^ j = a / 256 ^ j / b from by rw [Nat.div_div_eq_div_mul, Nat.div_div_eq_div_mul, Nat.mul_comm], hdiv.1]
    rw [Nat.mul_add_mod, Nat.mod_eq_of_lt h256]
  · rw [ds_upd_out _ _ _ _ _ _ (by omega), hdiv.2]; rw [htop] at hmod; omega
  · rw [upd_other _ _ (by omega)]; exact h.low m hm
  · by_cases e : m = j + n
    · rw [e, upd_same, htop]
    · rw [upd_other _ _ e]; exact h.zero m (by omega) h2
  · by_cases e : m = j + n
    · rw [e, upd_same, htop]; omega
    · rw [upd_other _ _ e]; exact h.dig m
theorem DInv.start {a b n la J : Nat} (hla : la + 1 = J + n) (ha : a / 256 ^ J < b) (hbn : b ≤ 256 ^ n) : DInv a b n la J (dg a) :=
  ⟨by rw [ds_dg, Nat.mod_eq_of_lt ha, Nat.mod_eq_of_lt (by omega)], fun _ _ => rfl, fun m h1 h2 => by omega, fun m => ⟨dg_nonneg a m, dg_lt a m⟩⟩
/-- the digits of the remainder, scaled back -/
theorem rest_digit (r s i : Nat) (hs : s ≤ 7) : (dg (r * 2 ^ s) i + dg (r * 2 ^ s) (i + 1) * 256) / 2 ^ s % 256 = dg r i := by
  unfold dg
  rw [Nat.pow_succ, ← Nat.div_div_eq_div_mul]
  have e : r / 256 ^ i = (r * 2 ^ s / 256 ^ i) / 2 ^ s := by
    rw [Nat.div_div_eq_div_mul, Nat.mul_comm (256 ^ i), ← Nat.div_div_eq_div_mul, Nat.mul_div_cancel _ (Nat.two_pow_pos s)]
  rw [e]
  generalize r * 2 ^ s / 256 ^ i = X
  rcases (by omega : s = 0 ∨ s = 1 ∨ s = 2 ∨ s = 3 ∨ s = 4 ∨ s = 5 ∨ s = 6 ∨ s = 7) with h | h | h | h | h | h | h | h <;> subst h <;> simp <;> omega
end Go.Proofs.YtdlbnioidfhhcaaGreat.Num
