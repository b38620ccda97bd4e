/- Numbers as words of 32 bits, and their long division: plain facts. No program in sight. -/
import Derived.Test.YtmbenndmkacjpaaNum
namespace Go.Proofs.Ytmbenndmkacjpaa.Num

/-- a word of a number -/
def wd (n i : Nat) : Int := ((n / 4294967296 ^ i % 4294967296 : Nat) : Int)
theorem wd_nonneg (n i : Nat) : 0 ≤ wd n i := by unfold wd; omega
theorem wd_lt (n i : Nat) : wd n i < 4294967296 := by unfold wd; omega
theorem wd_le (n i : Nat) : wd n i ≤ 4294967295 := by have := wd_lt n i; omega

/-- digits determine a function -/
theorem ds_word {f : Nat → Int} {n : Nat} {x : Nat} (hd : ∀ k, k < n → 0 ≤ f k ∧ f k < 4294967296) (h : ds 4294967296 f 0 n = (x : Int)) : ∀ k, k < n → f k = wd x k := by
  intro k hk
  have hd' : ∀ m, m < n → 0 ≤ f (0 + m) ∧ f (0 + m) < 4294967296 := fun m hm => by simpa using hd m hm
  have e1 : ds 4294967296 f 0 n = ds 4294967296 f 0 k + 4294967296 ^ k * (f k + 4294967296 * ds 4294967296 f (k + 1) (n - k - 1)) := by
    have h1 := ds_add 4294967296 f 0 k (n - k)
    rw [show k + (n - k) = n from by omega, Nat.zero_add] at h1
    rw [h1]
    congr 2
    have h2 := ds_head 4294967296 f k (n - k - 1)
    rw [show n - k - 1 + 1 = n - k from by omega] at h2
    exact h2
  have b := ds_bound (B := 4294967296) (by omega) (f := f) (lo := 0) (n := k) (fun m hm => hd' m (by omega))
  have e2 : ((x / 4294967296 ^ k : Nat) : Int) = f k + 4294967296 * ds 4294967296 f (k + 1) (n - k - 1) := by
    rw [Int.natCast_ediv, ← h, e1, Int.natCast_pow, show ((4294967296 : Nat) : Int) = 4294967296 from rfl, Int.add_mul_ediv_left _ _ (Int.ne_of_gt (Int.pow_pos (by omega))), Int.ediv_eq_zero_of_lt b.1 b.2, Int.zero_add]
  unfold wd
  rw [Int.natCast_emod, e2]
  have := hd k hk
  omega

/-- the sum of n digits of a number from j on -/
theorem ds_wd (x j n : Nat) : ds 4294967296 (wd x) j n = ((x / 4294967296 ^ j % 4294967296 ^ n : Nat) : Int) := by
  have h := ds_digits 4294967296 (by omega) (x / 4294967296 ^ j) n
  rw [← h]
  apply ds_congr
  intro k hk
  simp only [Nat.zero_add, wd]
  rw [Nat.pow_add, ← Nat.div_div_eq_div_mul]


/-- what is multiplied and added, word by word -/
structure Mac (R R' D : Nat → Int) (i j : Nat) (x c : Int) : Prop where
  sum : ds 4294967296 R' i j + c * 4294967296 ^ j = ds 4294967296 R i j + x * ds 4294967296 D 0 j
  out : ∀ m, m < i ∨ i + j ≤ m → R' m = R m
  dig : ∀ m, 0 ≤ R' m ∧ R' m < 4294967296
  c0 : 0 ≤ c
  c1 : c ≤ 4294967295
theorem Mac.zero {R D : Nat → Int} (hd : ∀ m, 0 ≤ R m ∧ R m < 4294967296) (i : Nat) (x : Int) : Mac R R D i 0 x 0 :=
  ⟨by simp [ds], fun _ _ => rfl, hd, by omega, by omega⟩
theorem mac_le {x d : Int} (hx : 0 ≤ x ∧ x ≤ 4294967295) (hd : 0 ≤ d ∧ d ≤ 4294967295) : 0 ≤ x * d ∧ x * d ≤ 18446744065119617025 := by
  refine ⟨Int.mul_nonneg hx.1 hd.1, ?_⟩
  have := Int.mul_le_mul hx.2 hd.2 hd.1 (by omega : (0 : Int) ≤ 4294967295); omega
theorem Mac.step {R R' D : Nat → Int} {i j : Nat} {x c t : Int} (h : Mac R R' D i j x c) (hD : 0 ≤ D j ∧ D j ≤ 4294967295) (hx : 0 ≤ x ∧ x ≤ 4294967295) (ht : t = x * D j + R' (i + j) + c) :
    Mac R (upd R' (i + j) (t % 4294967296)) D i (j + 1) x (t / 4294967296) := by
  have p := mac_le hx hD
  have c0 := h.c0; have c1 := h.c1
  have d := h.dig (i + j)
  refine ⟨?_, fun m hm => ?_, fun m => ?_, by omega, by omega⟩
  · rw [ds_succ, ds_succ, ds_succ, ds_upd_out _ _ _ _ _ _ (by omega), upd_same, Nat.zero_add, Int.pow_succ, Int.mul_add]
    have e1 := h.sum
    have e2 := h.out (i + j) (by omega)
    have e : t % 4294967296 = x * D j + R' (i + j) + c - 4294967296 * (t / 4294967296) := by omega
    rw [e, ← e2]
    have e3 : ∀ u : Int, u * (4294967296 ^ j * 4294967296) = 4294967296 * (u * 4294967296 ^ j) := fun u => by rw [Int.mul_comm (4294967296 ^ j) 4294967296, Int.mul_left_comm]
    rw [e3]
    simp only [Int.sub_mul, Int.add_mul, Int.mul_assoc]
    omega
  · rw [upd_other _ _ (by omega)]; exact h.out m (by omega)
  · by_cases e : m = i + j
    · rw [e, upd_same]; omega
    · rw [upd_other _ _ e]; exact h.dig m
/-- the product of the first i words with all of a number's -/
structure Prd (A B : Nat) (lb i : Nat) (R : Nat → Int) : Prop where
  sum : ds 4294967296 R 0 (i + lb) = ((A % 4294967296 ^ i : Nat) : Int) * B
  zero : ∀ m, i + lb ≤ m → R m = 0
  dig : ∀ m, 0 ≤ R m ∧ R m < 4294967296
theorem Prd.zero' (A B lb : Nat) : Prd A B lb 0 (fun _ => 0) :=
  ⟨by rw [ds_zero (fun _ _ => rfl)]; simp [Nat.mod_one], fun _ _ => rfl, fun _ => by omega⟩
theorem Prd.step {A B lb i : Nat} {R R' D : Nat → Int} {c : Int} (h : Prd A B lb i R) (hm : Mac R R' D i lb (wd A i) c) (hB : (B : Int) = ds 4294967296 D 0 lb) :
    Prd A B lb (i + 1) (upd R' (i + lb) c) := by
  have c0 := hm.c0; have c1 := hm.c1
  refine ⟨?_, fun m hm' => ?_, fun m => ?_⟩
  · rw [show i + 1 + lb = i + lb + 1 from by omega, ds_succ, Nat.zero_add, upd_same, ds_upd_out _ _ _ _ _ _ (by omega), ds_add, Int.pow_add, Nat.zero_add]
    have e1 := h.sum
    rw [ds_add, Nat.zero_add] at e1
    have e2 : ds 4294967296 R' 0 i = ds 4294967296 R 0 i := ds_congr fun k hk => hm.out (0 + k) (by omega)
    have e3 := hm.sum
    rw [← hB] at e3
    have e4 : ((A % 4294967296 ^ (i + 1) : Nat) : Int) = ((A % 4294967296 ^ i : Nat) : Int) + 4294967296 ^ i * wd A i := by
      rw [Nat.mod_pow_succ]; unfold wd; simp
    rw [e4, e2, Int.add_mul, ← e1, Int.mul_assoc, Int.mul_left_comm c (4294967296 ^ i), Int.add_assoc, ← Int.mul_add, e3, Int.mul_add, Int.add_assoc]
  · rw [upd_other _ _ (by omega), hm.out m (by omega)]; exact h.zero m (by omega)
  · by_cases e : m = i + lb
    · rw [e, upd_same]; omega
    · rw [upd_other _ _ e]; exact hm.dig m
theorem Prd.done {A B la lb : Nat} {R : Nat → Int} (h : Prd A B lb la R) (hA : A < 4294967296 ^ la) : ds 4294967296 R 0 (la + lb) = ((A * B : Nat) : Int) := by
  rw [h.sum, Nat.mod_eq_of_lt hA]; simp

/-- words shifted -/
structure Shf (A s i : Nat) (R : Nat → Int) : Prop where
  sum : ds 4294967296 R 0 (i + 1) = ((A % 4294967296 ^ i : Nat) : Int) * 2 ^ s
  zero : ∀ m, i < m → R m = 0
  dig : ∀ m, 0 ≤ R m ∧ R m < 4294967296
  top : R i < 2 ^ s
theorem Shf.zero' (A s : Nat) : Shf A s 0 (fun _ => 0) :=
  ⟨by simp [ds, Nat.mod_one], fun _ _ => rfl, fun _ => by omega, Int.pow_pos (by omega)⟩
/-- a word times a power of 2 -/
theorem shf_parts (s : Nat) (hs : s ≤ 31) (x : Int) (hx : 0 ≤ x ∧ x ≤ 4294967295) : (x * 2 ^ s % 4294967296) % 2 ^ s = 0 ∧ 0 ≤ x * 2 ^ s / 4294967296 ∧ x * 2 ^ s / 4294967296 < 2 ^ s ∧ 0 ≤ x * 2 ^ s ∧ x * 2 ^ s ≤ 9223372036854775807 ∧ (2 : Int) ^ s ≤ 2147483648 := by
  rcases (by omega : s = 0 ∨ s = 1 ∨ s = 2 ∨ s = 3 ∨ s = 4 ∨ s = 5 ∨ s = 6 ∨ s = 7 ∨ s = 8 ∨ s = 9 ∨ s = 10 ∨ s = 11 ∨ s = 12 ∨ s = 13 ∨ s = 14 ∨ s = 15 ∨ s = 16 ∨ s = 17 ∨ s = 18 ∨ s = 19 ∨ s = 20 ∨ s = 21 ∨ s = 22 ∨ s = 23 ∨ s = 24 ∨ s = 25 ∨ s = 26 ∨ s = 27 ∨ s = 28 ∨ s = 29 ∨ s = 30 ∨ s = 31) with
    h | h | h | h | h | h | h | h | h | h | h | h | h | h | h | h | h | h | h | h | h | h | h | h | h | h | h | h | h | h | h | h <;> subst h <;> simp <;> omega
theorem Shf.step {A s i : Nat} {R : Nat → Int} (h : Shf A s i R) (hs : s ≤ 31) :
    Shf A s (i + 1) (upd (upd R i (wd A i * 2 ^ s % 4294967296 + R i)) (i + 1) (wd A i * 2 ^ s / 4294967296)) ∧ wd A i * 2 ^ s % 4294967296 + R i < 4294967296 := by
  obtain ⟨p1, p2, p3, p4, p5, p6⟩ := shf_parts s hs (wd A i) ⟨wd_nonneg A i, wd_le A i⟩
  have ht := h.top
  have hd := h.dig i
  have hlt : wd A i * 2 ^ s % 4294967296 + R i < 4294967296 := by
    have h1 : wd A i * 2 ^ s % 4294967296 < 4294967296 := by omega
    generalize wd A i * 2 ^ s % 4294967296 = y at p1 h1 ⊢
    rcases (by omega : s = 0 ∨ s = 1 ∨ s = 2 ∨ s = 3 ∨ s = 4 ∨ s = 5 ∨ s = 6 ∨ s = 7 ∨ s = 8 ∨ s = 9 ∨ s = 10 ∨ s = 11 ∨ s = 12 ∨ s = 13 ∨ s = 14 ∨ s = 15 ∨ s = 16 ∨ s = 17 ∨ s = 18 ∨ s = 19 ∨ s = 20 ∨ s = 21 ∨ s = 22 ∨ s = 23 ∨ s = 24 ∨ s = 25 ∨ s = 26 ∨ s = 27 ∨ s = 28 ∨ s = 29 ∨ s = 30 ∨ s = 31) with
      e | e | e | e | e | e | e | e | e | e | e | e | e | e | e | e | e | e | e | e | e | e | e | e | e | e | e | e | e | e | e | e <;> subst e <;> simp at p1 ht <;> omega
  refine ⟨⟨?_, fun m hm => ?_, fun m => ?_, ?_⟩, hlt⟩
  · rw [ds_succ, Nat.zero_add, upd_same, ds_upd_out _ _ _ _ _ _ (by omega), ds_succ, Nat.zero_add, upd_same, ds_upd_out _ _ _ _ _ _ (by omega)]
    have e1 := h.sum
    rw [ds_succ, Nat.zero_add] at e1
    have e4 : ((A % 4294967296 ^ (i + 1) : Nat) : Int) = ((A % 4294967296 ^ i : Nat) : Int) + 4294967296 ^ i * wd A i := by
      rw [Nat.mod_pow_succ]; unfold wd; simp
    rw [e4, Int.add_mul ((A % 4294967296 ^ i : Nat) : Int), ← e1, Int.pow_succ]
    have e5 : 4294967296 ^ i * wd A i * 2 ^ s = (wd A i * 2 ^ s % 4294967296) * 4294967296 ^ i + wd A i * 2 ^ s / 4294967296 * (4294967296 ^ i * 4294967296) := by
      rw [Int.mul_comm (4294967296 ^ i) 4294967296, ← Int.mul_assoc (wd A i * 2 ^ s / 4294967296), ← Int.add_mul, Int.mul_assoc, Int.mul_comm]
      congr 1
      omega
    rw [e5, Int.add_mul]; omega
  · rw [upd_other _ _ (by omega), upd_other _ _ (by omega)]; exact h.zero m (by omega)
  · by_cases e : m = i + 1
    · rw [e, upd_same]; omega
    · rw [upd_other _ _ e]
      by_cases e : m = i
      · rw [e, upd_same]; omega
      · rw [upd_other _ _ e]; exact h.dig m
  · rw [upd_same]; exact p3
theorem Shf.done {A s n : Nat} {R : Nat → Int} (h : Shf A s n R) (hA : A < 4294967296 ^ n) : ∀ k, k < n + 1 → R k = wd (A * 2 ^ s) k := by
  refine ds_word (fun k _ => h.dig k) ?_
  rw [h.sum, Nat.mod_eq_of_lt hA]; simp

/-- what is subtracted, word by word -/
structure SubW (R R' D : Nat → Int) (j i : Nat) (g b : Int) : Prop where
  sum : ds 4294967296 R' j i = ds 4294967296 R j i - g * ds 4294967296 D 0 i + b * 4294967296 ^ i
  out : ∀ m, m < j ∨ j + i ≤ m → R' m = R m
  dig : ∀ m, 0 ≤ R' m ∧ R' m < 4294967296
  b0 : 0 ≤ b
  b1 : b ≤ 4294967295
theorem SubW.zero {R D : Nat → Int} (hd : ∀ m, 0 ≤ R m ∧ R m < 4294967296) (j : Nat) (g : Int) : SubW R R D j 0 g 0 :=
  ⟨by simp [ds], fun _ _ => rfl, hd, by omega, by omega⟩
theorem SubW.step {R R' D : Nat → Int} {j i : Nat} {g b t p : Int} (h : SubW R R' D j i g b) (hD : 0 ≤ D i ∧ D i ≤ 4294967295) (hg : 0 ≤ g ∧ g ≤ 4294967295)
    (hp : p = g * D i) (ht : t = R' (i + j) - b - p % 4294967296) :
    SubW R (upd R' (i + j) (t % 4294967296)) D j (i + 1) g (p / 4294967296 - t / 4294967296) := by
  have q := mac_le hg hD
  rw [← hp] at q
  have b0 := h.b0; have b1 := h.b1
  have d := h.dig (i + j)
  refine ⟨?_, fun m hm => ?_, fun m => ?_, by omega, by omega⟩
  · rw [ds_succ, ds_succ, ds_succ, ds_upd_out _ _ _ _ _ _ (by omega), h.sum, Nat.add_comm j i, upd_same, Nat.zero_add, Int.pow_succ, ← h.out (i + j) (by omega)]
    have e : t % 4294967296 = R' (i + j) - g * D i - b + 4294967296 * (p / 4294967296 - t / 4294967296) := by omega
    rw [e]
    have e2 : ∀ u : Int, u * (4294967296 ^ i * 4294967296) = 4294967296 * (u * 4294967296 ^ i) := fun u => by rw [Int.mul_comm (4294967296 ^ i) 4294967296, Int.mul_left_comm]
    rw [e2]
    generalize p / 4294967296 - t / 4294967296 = z
    simp only [Int.sub_mul, Int.add_mul, Int.mul_add, Int.mul_assoc]
    omega
  · rw [upd_other _ _ (by omega)]; exact h.out m (by omega)
  · by_cases e : m = i + j
    · rw [e, upd_same]; omega
    · rw [upd_other _ _ e]; exact h.dig m

/-- what is added back, digit by digit -/
structure AddW (R R' D : Nat → Int) (j i : Nat) (c : Int) : Prop where
  sum : ds 4294967296 R' j i = ds 4294967296 R j i + ds 4294967296 D 0 i - c * 4294967296 ^ i
  out : ∀ m, m < j ∨ j + i ≤ m → R' m = R m
  dig : ∀ m, 0 ≤ R' m ∧ R' m < 4294967296
  c0 : 0 ≤ c
  c1 : c ≤ 1
theorem AddW.zero {R D : Nat → Int} (hd : ∀ m, 0 ≤ R m ∧ R m < 4294967296) (j : Nat) : AddW R R D j 0 0 :=
  ⟨by simp [ds], fun _ _ => rfl, hd, by omega, by omega⟩
theorem AddW.step {R R' D : Nat → Int} {j i : Nat} {c : Int} (h : AddW R R' D j i c) (hD : 0 ≤ D i ∧ D i ≤ 4294967295) :
    AddW R (upd R' (i + j) ((c + (R' (i + j) + D i)) % 4294967296)) D j (i + 1) ((c + (R' (i + j) + D i)) / 4294967296) := by
  have c0 := h.c0; have c1 := h.c1
  have d := h.dig (i + j)
  refine ⟨?_, fun m hm => ?_, fun m => ?_, by omega, by omega⟩
  · rw [ds_succ, ds_succ, ds_succ, ds_upd_out _ _ _ _ _ _ (by omega), h.sum, Nat.add_comm j i, upd_same, Nat.zero_add, Int.pow_succ, ← h.out (i + j) (by omega)]
    have e : (c + (R' (i + j) + D i)) % 4294967296 = c + (R' (i + j) + D i) - 4294967296 * ((c + (R' (i + j) + D i)) / 4294967296) := by omega
    rw [e]
    have e2 : ∀ u : Int, u * (4294967296 ^ i * 4294967296) = 4294967296 * (u * 4294967296 ^ i) := fun u => by rw [Int.mul_comm (4294967296 ^ i) 4294967296, Int.mul_left_comm]
    rw [e2]
    simp only [Int.sub_mul, Int.add_mul, Int.mul_assoc]
    omega
  · rw [upd_other _ _ (by omega)]; exact h.out m (by omega)
  · by_cases e : m = i + j
    · rw [e, upd_same]; omega
    · rw [upd_other _ _ e]; exact h.dig m

/-- the state of the division: the digits from J on hold the remainder of the number's upper part -/
structure WInv (a b : Nat) (n la J : Nat) (R : Nat → Int) : Prop where
  hi : ds 4294967296 R J n = ((a / 4294967296 ^ J % b : Nat) : Int)
  low : ∀ m, m < J → R m = wd a m
  zero : ∀ m, J + n ≤ m → m ≤ la → R m = 0
  dig : ∀ m, 0 ≤ R m ∧ R m < 4294967296
theorem WInv.window {a b n la j : Nat} {R : Nat → Int} (h : WInv a b n la (j + 1) R) :
    ds 4294967296 R j (n + 1) = ((a / 4294967296 ^ j % 4294967296 + 4294967296 * (a / 4294967296 ^ (j + 1) % b) : Nat) : Int) := by
  rw [ds_head, h.hi, h.low j (by omega)]; unfold wd; omega

/-- what the guess of a word of the quotient knows: the upper words of divisor and window -/
structure Kn (Wn b v1 v2 u0 u1 u2 bl ul P : Int) : Prop where
  hP : 0 < P
  hb : b = (4294967296 * v1 + v2) * P + bl
  bl0 : 0 ≤ bl
  bl1 : bl < P
  hw : Wn = (4294967296 * (4294967296 * u0 + u1) + u2) * P + ul
  ul0 : 0 ≤ ul
  ul1 : ul < P
  v10 : 1 ≤ v1
  v11 : v1 ≤ 4294967295
  v20 : 0 ≤ v2
  v21 : v2 ≤ 4294967295
  u00 : 0 ≤ u0
  u01 : u0 ≤ 4294967295
  u10 : 0 ≤ u1
  u11 : u1 ≤ 4294967295
  u20 : 0 ≤ u2
  u21 : u2 ≤ 4294967295
  lt : Wn < 4294967296 * b
section
variable {Wn b v1 v2 u0 u1 u2 bl ul P : Int} (h : Kn Wn b v1 v2 u0 u1 u2 bl ul P)
include h
theorem Kn.pos : 0 < b := by
  obtain ⟨hP, hb, bl0, _, _, _, _, v10, _, v20, _⟩ := h
  rw [hb]
  have := Int.mul_pos (show (0 : Int) < 4294967296 * v1 + v2 by omega) hP
  omega
theorem Kn.top : u0 ≤ v1 := by
  have hP := h.hP; have hb := h.hb; have hw := h.hw; have b1 := h.bl1; have l := h.lt; have ul0 := h.ul0
  rcases Int.lt_or_le v1 u0 with hc | hc
  · have m1 : (4294967296 * v1 + v2 + 1) * P ≤ (4294967296 * u0) * P := Int.mul_le_mul_of_nonneg_right (by have := h.v21; omega) (by omega)
    have m2 : 0 ≤ (4294967296 * u1 + u2) * P := Int.mul_nonneg (by have := h.u10; have := h.u20; omega) (by omega)
    simp only [Int.add_mul, Int.mul_add, Int.mul_assoc, Int.one_mul] at m1 m2 hb hw
    omega
  · exact hc
theorem Kn.start : Wn / b ≤ (4294967296 * u0 + u1) / v1 := by
  have hP := h.hP; have hb := h.hb; have hw := h.hw; have ul1 := h.ul1
  have hbp := h.pos
  rw [Int.le_ediv_iff_mul_le (by have := h.v10; omega)]
  have h0 : 0 ≤ Wn / b := Int.ediv_nonneg (by
    rw [hw]; have := Int.mul_nonneg (show (0 : Int) ≤ 4294967296 * (4294967296 * u0 + u1) + u2 by have := h.u00; have := h.u10; have := h.u20; omega) (Int.le_of_lt hP); have := h.ul0; omega) (by omega)
  have h1 : Wn / b * b ≤ Wn := Int.ediv_mul_le _ (by omega)
  have h2 : Wn / b * ((4294967296 * v1) * P) ≤ Wn / b * b := by
    refine Int.mul_le_mul_of_nonneg_left ?_ h0
    have := Int.mul_nonneg h.v20 (Int.le_of_lt hP)
    have := h.bl0
    rw [hb, Int.add_mul]; omega
  have h3 : (Wn / b * v1) * (4294967296 * P) < (4294967296 * u0 + u1 + 1) * (4294967296 * P) := by
    have e : (Wn / b * v1) * (4294967296 * P) = Wn / b * ((4294967296 * v1) * P) := by
      rw [Int.mul_assoc, Int.mul_left_comm v1, Int.mul_assoc]
    have m : u2 * P ≤ 4294967295 * P := Int.mul_le_mul_of_nonneg_right h.u21 (by omega)
    rw [e]
    simp only [Int.add_mul, Int.mul_add, Int.mul_assoc, Int.one_mul, Int.mul_left_comm _ (4294967296 : Int) P] at *
    omega
  have := Int.lt_of_mul_lt_mul_right h3 (by omega)
  omega
/-- the test holds: the guess is too great -/
theorem Kn.less {q r : Int} (hq : 0 ≤ q) (he : q * v1 + r = 4294967296 * u0 + u1) (ht : 4294967296 * r + u2 < q * v2) : Wn / b < q := by
  have hP := h.hP; have hb := h.hb; have hw := h.hw; have ul1 := h.ul1
  apply Int.ediv_lt_of_lt_mul h.pos
  have m1 : (4294967296 * (4294967296 * u0 + u1) + u2 + 1) * P ≤ (4294967296 * (q * v1) + q * v2) * P := Int.mul_le_mul_of_nonneg_right (by omega) (by omega)
  have m2 : 0 ≤ q * bl := Int.mul_nonneg hq h.bl0
  have e : q * b = (4294967296 * (q * v1) + q * v2) * P + q * bl := by
    rw [hb, Int.mul_add, ← Int.mul_assoc, Int.mul_add, Int.mul_left_comm]
  rw [e]
  rw [Int.add_mul _ 1] at m1
  omega
/-- the guess is not a word: it is too great -/
theorem Kn.less' {q : Int} (hq : 4294967296 ≤ q) : Wn / b < q := by
  have := Int.ediv_lt_of_lt_mul h.pos h.lt
  omega
/-- a guess that is no word has a small remainder -/
theorem Kn.small {q r : Int} (hq : 4294967296 ≤ q) (he : q * v1 + r = 4294967296 * u0 + u1) : r < 4294967296 := by
  have h1 : 4294967296 * v1 ≤ q * v1 := Int.mul_le_mul_of_nonneg_right hq (by have := h.v10; omega)
  have := h.top
  have := h.u11
  omega
/-- the test fails: the guess is at most 1 too great -/
theorem Kn.near {q r : Int} (hq : 0 ≤ q ∧ q ≤ 4294967295) (he : q * v1 + r = 4294967296 * u0 + u1) (ht : 4294967296 ≤ r ∨ q * v2 ≤ 4294967296 * r + u2) : (q - 1) * b ≤ Wn := by
  have hP := h.hP; have hb := h.hb; have hw := h.hw; have ul0 := h.ul0; have bl1 := h.bl1
  have h3 : q * v2 ≤ 4294967296 * r + u2 := by
    rcases ht with ht | ht
    · have := (mac_le hq ⟨h.v20, h.v21⟩).2
      have := h.u20
      omega
    · exact ht
  have hw0 : 0 ≤ Wn := by
    rw [hw]; have := Int.mul_nonneg (show (0 : Int) ≤ 4294967296 * (4294967296 * u0 + u1) + u2 by have := h.u00; have := h.u10; have := h.u20; omega) (Int.le_of_lt hP); omega
  rcases Int.lt_or_le 0 q with hp | hp
  · have m1 : (q - 1) * b ≤ (q - 1) * ((4294967296 * v1 + v2 + 1) * P) := by
      refine Int.mul_le_mul_of_nonneg_left ?_ (by omega)
      rw [hb, Int.add_mul _ 1]; omega
    have m2 : (q - 1) * (4294967296 * v1 + v2 + 1) ≤ 4294967296 * (4294967296 * u0 + u1) + u2 := by
      have e : (q - 1) * (4294967296 * v1 + v2 + 1) = 4294967296 * (q * v1) + q * v2 + q - 4294967296 * v1 - v2 - 1 := by
        rw [Int.sub_mul, Int.mul_add, Int.mul_add, Int.mul_left_comm]; omega
      have := h.v10; have := h.v20
      rw [e]; omega
    have m3 := Int.mul_le_mul_of_nonneg_right m2 (Int.le_of_lt hP)
    rw [Int.mul_assoc] at m3
    omega
  · obtain rfl : q = 0 := by omega
    have := h.pos
    omega
end
/-- the window and the divisor as the guess sees them -/
theorem WInv.kn {a b n la j : Nat} {R D : Nat → Int} (h : WInv a b (n + 2) la (j + 1) R) (hb : (b : Int) = ds 4294967296 D 0 (n + 2)) (hD : ∀ m, 0 ≤ D m ∧ D m ≤ 4294967295) (hn : 1 ≤ D (n + 1)) :
    Kn ((a / 4294967296 ^ j % 4294967296 + 4294967296 * (a / 4294967296 ^ (j + 1) % b) : Nat) : Int) b (D (n + 1)) (D n) (R (j + n + 2)) (R (j + n + 1)) (R (j + n)) (ds 4294967296 D 0 n) (ds 4294967296 R j n) (4294967296 ^ n) := by
  have hw := h.window
  have bD := ds_bound (B := 4294967296) (by omega) (f := D) (lo := 0) (n := n) (fun k _ => by have := hD (0 + k); omega)
  have bR := ds_bound (B := 4294967296) (by omega) (f := R) (lo := j) (n := n) (fun k _ => h.dig (j + k))
  have r0 := h.dig (j + n + 2)
  have r1 := h.dig (j + n + 1)
  have r2 := h.dig (j + n)
  have d0 := hD (n + 1)
  have d1 := hD n
  have p : (0 : Int) < 4294967296 ^ n := Int.pow_pos (by omega)
  have hb2 : (b : Int) = (4294967296 * D (n + 1) + D n) * 4294967296 ^ n + ds 4294967296 D 0 n := by
    rw [hb, ds_succ, ds_succ, Nat.zero_add, Nat.zero_add, Int.pow_succ, Int.add_mul, Int.mul_assoc, Int.mul_comm (4294967296 ^ n) 4294967296, Int.mul_left_comm]
    omega
  have hbp : 0 < b := by
    have : (0 : Int) < (4294967296 * D (n + 1) + D n) * 4294967296 ^ n := Int.mul_pos (by omega) p
    omega
  refine ⟨p, hb2, bD.1, bD.2, ?_, bR.1, bR.2, hn, by omega, by omega, by omega, by omega, by omega, by omega, by omega, by omega, by omega, ?_⟩
  · have q1 : (4294967296 : Int) ^ (n + 1) = 4294967296 * 4294967296 ^ n := by rw [Int.pow_succ, Int.mul_comm]
    have q2 : (4294967296 : Int) ^ (n + 1 + 1) = 4294967296 * (4294967296 * 4294967296 ^ n) := by rw [Int.pow_succ, Int.mul_comm, q1]
    rw [← hw, show n + 2 + 1 = n + 1 + 1 + 1 from rfl, ds_succ, ds_succ, ds_succ, q1, q2, show j + (n + 1 + 1) = j + n + 2 from by omega, show j + (n + 1) = j + n + 1 from by omega]
    simp only [Int.add_mul, Int.mul_add, Int.mul_assoc, Int.mul_left_comm _ (4294967296 : Int)]
    omega
  · have := Nat.mod_lt (a / 4294967296 ^ (j + 1)) hbp
    omega
/-- within a step -/
structure WMid (a b : Nat) (n la j : Nat) (R : Nat → Int) (g top : Int) : Prop where
  sum : ((a / 4294967296 ^ j % 4294967296 + 4294967296 * (a / 4294967296 ^ (j + 1) % b) : Nat) : Int) = ds 4294967296 R j n + top * 4294967296 ^ n + g * b
  le : (((a / 4294967296 ^ j % 4294967296 + 4294967296 * (a / 4294967296 ^ (j + 1) % b)) / b : Nat) : Int) ≤ g
  ge : (g - 1) * b ≤ ((a / 4294967296 ^ j % 4294967296 + 4294967296 * (a / 4294967296 ^ (j + 1) % b) : Nat) : Int)
  low : ∀ m, m < j → R m = wd a m
  zero : ∀ m, j + n < m → m ≤ la → R m = 0
  dig : ∀ m, 0 ≤ R m ∧ R m < 4294967296
theorem WMid.start {a b n la j : Nat} {R R' D : Nat → Int} {g borrow : Int} (h : WInv a b n la (j + 1) R) (hs : SubW R R' D j n g borrow) (hb : (b : Int) = ds 4294967296 D 0 n)
    (hg : (((a / 4294967296 ^ j % 4294967296 + 4294967296 * (a / 4294967296 ^ (j + 1) % b)) / b : Nat) : Int) ≤ g) (hg2 : (g - 1) * b ≤ ((a / 4294967296 ^ j % 4294967296 + 4294967296 * (a / 4294967296 ^ (j + 1) % b) : Nat) : Int)) :
    WMid a b n la j R' g (R' (j + n) - borrow) := by
  have hw := h.window
  refine ⟨?_, hg, hg2, fun m hm => ?_, fun m h1 h2 => ?_, hs.dig⟩
  · rw [← hw, ds_succ, hs.sum, hs.out (j + n) (by omega), hb, Int.sub_mul]; omega
  · rw [hs.out m (by omega)]; exact h.low m (by omega)
  · rw [hs.out m (by omega)]; exact h.zero m (by omega) h2
theorem WMid.upd {a b n la j : Nat} {R : Nat → Int} {g top v : Int} (h : WMid a b n la j R g top) (hv : 0 ≤ v ∧ v < 4294967296) : WMid a b n la j (upd R (j + n) v) g top := by
  refine ⟨?_, h.le, h.ge, fun m hm => ?_, fun m h1 h2 => ?_, fun m => ?_⟩
  · rw [ds_upd_out _ _ _ _ _ _ (by omega)]; exact h.sum
  · rw [upd_other _ _ (by omega)]; exact h.low m hm
  · rw [upd_other _ _ (by omega)]; exact h.zero m h1 h2
  · by_cases e : m = j + n
    · rw [e, upd_same]; exact hv
    · rw [upd_other _ _ e]; exact h.dig m
theorem WMid.back {a b n la j : Nat} {R R' D : Nat → Int} {g top c : Int} (h : WMid a b n la j R g top) (ha : AddW R R' D j n c) (hb : (b : Int) = ds 4294967296 D 0 n) (hbp : 0 < b) (ht : top < 0) :
    WMid a b n la j R' (g - 1) (top + c) := by
  have bR := ds_bound (B := 4294967296) (by omega) (f := R) (lo := j) (n := n) (fun k _ => h.dig (j + k))
  have hlt : (((a / 4294967296 ^ j % 4294967296 + 4294967296 * (a / 4294967296 ^ (j + 1) % b)) / b : Nat) : Int) < g := by
    rw [Int.natCast_ediv]
    apply Int.ediv_lt_of_lt_mul (by omega)
    rw [h.sum]
    have : top * 4294967296 ^ n ≤ (-1) * 4294967296 ^ n := Int.mul_le_mul_of_nonneg_right (by omega) (by omega)
    omega
  refine ⟨?_, by omega, ?_, fun m hm => ?_, fun m h1 h2 => ?_, ha.dig⟩
  · rw [h.sum, ha.sum, ← hb, Int.sub_mul, Int.add_mul]; omega
  · have := h.ge
    simp only [Int.sub_mul, Int.one_mul] at this ⊢
    omega
  · rw [ha.out m (by omega)]; exact h.low m hm
  · rw [ha.out m (by omega)]; exact h.zero m h1 h2
/-- the guess was the quotient's word: the remainder stands -/
theorem WMid.done {a b n la j : Nat} {R : Nat → Int} {g top : Int} (h : WMid a b n la j R g top) (hbp : 0 < b) (hbn : b ≤ 4294967296 ^ n) (hge : g * b ≤ ((a / 4294967296 ^ j % 4294967296 + 4294967296 * (a / 4294967296 ^ (j + 1) % b) : Nat) : Int)) :
    WInv a b n la j (Num.upd R (j + n) 0) ∧ top = 0 := by
  have bR := ds_bound (B := 4294967296) (by omega) (f := R) (lo := j) (n := n) (fun k _ => h.dig (j + k))
  have hs := h.sum
  have hle := h.le
  generalize hW : a / 4294967296 ^ j % 4294967296 + 4294967296 * (a / 4294967296 ^ (j + 1) % b) = Wn at *
  have p : (0 : Int) < 4294967296 ^ n := Int.pow_pos (by omega)
  have hge : g ≤ ((Wn / b : Nat) : Int) := by
    rw [Int.natCast_ediv, Int.le_ediv_iff_mul_le (by omega)]; omega
  have hg : g = ((Wn / b : Nat) : Int) := by omega
  have hmod : ds 4294967296 R j n + top * 4294967296 ^ n = ((Wn % b : Nat) : Int) := by
    have h1 := Nat.div_add_mod Wn b
    have h2 : (b : Int) * ((Wn / b : Nat) : Int) + ((Wn % b : Nat) : Int) = (Wn : Int) := by exact_mod_cast h1
    rw [hs, ← hg, Int.mul_comm] at h2; omega
  have hlt := Nat.mod_lt Wn hbp
  have hpn : ((4294967296 : Int) ^ n) = ((4294967296 ^ n : Nat) : Int) := by simp
  have htop : top = 0 := by
    rcases Int.lt_or_le 0 top with h1 | h1
    · have : 1 * 4294967296 ^ n ≤ top * 4294967296 ^ n := Int.mul_le_mul_of_nonneg_right (by omega) (by omega)
      omega
    · rcases Int.lt_or_le top 0 with h2 | h2
      · have : top * 4294967296 ^ n ≤ (-1) * 4294967296 ^ n := Int.mul_le_mul_of_nonneg_right (by omega) (by omega)
        omega
      · omega
  have ha : a / 4294967296 ^ j = 4294967296 * (a / 4294967296 ^ (j + 1)) + a / 4294967296 ^ j % 4294967296 := by
    rw [Nat.pow_succ, ← Nat.div_div_eq_div_mul]; omega
  have hdiv : a / 4294967296 ^ j % b = Wn % b := by
    have h1 := Nat.div_add_mod (a / 4294967296 ^ (j + 1)) b
    have e : a / 4294967296 ^ j = b * (4294967296 * (a / 4294967296 ^ (j + 1) / b)) + Wn := by
      rw [ha, ← hW]
      have : 4294967296 * (a / 4294967296 ^ (j + 1)) = 4294967296 * (b * (a / 4294967296 ^ (j + 1) / b)) + 4294967296 * (a / 4294967296 ^ (j + 1) % b) := by rw [← Nat.mul_add, h1]
      rw [this, Nat.mul_left_comm 4294967296 b]; omega
    conv => lhs; rw [e]
    rw [Nat.mul_add_mod]
  refine ⟨⟨?_, fun m hm => ?_, fun m h1 h2 => ?_, fun m => ?_⟩, htop⟩
  · rw [ds_upd_out _ _ _ _ _ _ (by omega), hdiv]; rw [htop] at hmod; omega
  · rw [upd_other _ _ (by omega)]; exact h.low m hm
  · by_cases e : m = j + n
    · rw [e, upd_same]
    · rw [upd_other _ _ e]; exact h.zero m (by omega) h2
  · by_cases e : m = j + n
    · rw [e, upd_same]; omega
    · rw [upd_other _ _ e]; exact h.dig m
theorem WMid.quot {a b n la j : Nat} {R : Nat → Int} {g top : Int} (h : WMid a b n la j R g top) (ht : 0 ≤ top) : g * b ≤ ((a / 4294967296 ^ j % 4294967296 + 4294967296 * (a / 4294967296 ^ (j + 1) % b) : Nat) : Int) := by
  have bR := ds_bound (B := 4294967296) (by omega) (f := R) (lo := j) (n := n) (fun k _ => h.dig (j + k))
  have := Int.mul_nonneg ht (show (0 : Int) ≤ 4294967296 ^ n by omega)
  rw [h.sum]; omega
theorem WInv.start {a b n la J : Nat} (hla : la + 1 = J + n) (ha : a / 4294967296 ^ J < b) (hbn : b ≤ 4294967296 ^ n) : WInv a b n la J (wd a) :=
  ⟨by rw [ds_wd, Nat.mod_eq_of_lt ha, Nat.mod_eq_of_lt (by omega)], fun _ _ => rfl, fun m h1 h2 => by omega, fun m => ⟨wd_nonneg a m, wd_lt a m⟩⟩
/-- the words of the remainder, scaled back -/
theorem rest_word (r s i : Nat) (hs : s ≤ 31) : wd (r * 2 ^ s) i / 2 ^ s + wd (r * 2 ^ s) (i + 1) * 2 ^ (32 - s) % 4294967296 = wd r i := by
  unfold wd
  rw [Nat.pow_succ, ← Nat.div_div_eq_div_mul]
  have e : r / 4294967296 ^ i = (r * 2 ^ s / 4294967296 ^ i) / 2 ^ s := by
    rw [Nat.div_div_eq_div_mul, Nat.mul_comm (4294967296 ^ i), ← Nat.div_div_eq_div_mul, Nat.mul_div_cancel _ (Nat.two_pow_pos s)]
  rw [e]
  generalize r * 2 ^ s / 4294967296 ^ i = X
  rcases (by omega : s = 0 ∨ s = 1 ∨ s = 2 ∨ s = 3 ∨ s = 4 ∨ s = 5 ∨ s = 6 ∨ s = 7 ∨ s = 8 ∨ s = 9 ∨ s = 10 ∨ s = 11 ∨ s = 12 ∨ s = 13 ∨ s = 14 ∨ s = 15 ∨ s = 16 ∨ s = 17 ∨ s = 18 ∨ s = 19 ∨ s = 20 ∨ s = 21 ∨ s = 22 ∨ s = 23 ∨ s = 24 ∨ s = 25 ∨ s = 26 ∨ s = 27 ∨ s = 28 ∨ s = 29 ∨ s = 30 ∨ s = 31) with
    h | h | h | h | h | h | h | h | h | h | h | h | h | h | h | h | h | h | h | h | h | h | h | h | h | h | h | h | h | h | h | h <;> subst h <;> simp <;> omega

/-- how many words remain when the leading zeros are cut -/
def tl (f : Nat → Int) : Nat → Nat
  | 0 => 0
  | n + 1 => if f n = 0 then tl f n else n + 1
theorem tl_le (f : Nat → Int) : ∀ n, tl f n ≤ n
  | 0 => Nat.le_refl _
  | n + 1 => by
    unfold tl
    split
    · have := tl_le f n; omega
    · omega
theorem tl_sum (f : Nat → Int) : ∀ n, ds 4294967296 f 0 (tl f n) = ds 4294967296 f 0 n
  | 0 => rfl
  | n + 1 => by
    unfold tl
    split
    · rename_i h
      rw [tl_sum f n, ds_succ, Nat.zero_add, h]; simp
    · rfl
theorem tl_top (f : Nat → Int) : ∀ n, 0 < tl f n → f (tl f n - 1) ≠ 0
  | 0, h => by simp [tl] at h
  | n + 1, h => by
    unfold tl at h ⊢
    split
    · rename_i e
      rw [if_pos e] at h
      exact tl_top f n h
    · rename_i e
      exact e
end Go.Proofs.Ytmbenndmkacjpaa.Num
