import Derived.Test.YtdlbnioidfhhcaaGreatNum
import Derived.Test.YtdlbnioidfhhcaaGreatMod
import Derived.Test.YtdlbnioidfhhcaaGreatBytes
import Derived.Deep.AppendLies
import Derived.Lib.BufferRead
import Derived.Deep.RegionHeldLaw
import Derived.RegionTactic
import Derived.StillTailTactics
/- Numbers as words of 32 bits, and their long division: plain facts. No program in sight. -/
namespace Go.Proofs.YtdlbnioidfhhcaaGreat.Num

/-- a word of a number -/
def wd (n i : Nat) : Int := ((n / 4294967296 ^ i % 4294967296 : Nat) : Int)
theorem wd_nonneg (n i : Nat) : 0 ≤ wd n i := by unfold wd; omega
theorem wd_lt (n i : Nat) : wd n i < 4294967296 := by unfold wd; omega
theorem wd_le (n i : Nat) : wd n i ≤ 4294967295 := by have := wd_lt n i; omega

/-- digits determine a function -/
theorem ds_word {f : Nat → Int} {n : Nat} {x : Nat} (hd : ∀ k, k < n → 0 ≤ f k ∧ f k < 4294967296) (h : ds 4294967296 f 0 n = (x : Int)) : ∀ k, k < n → f k = wd x k := by
  intro k hk
  have hd' : ∀ m, m < n → 0 ≤ f (0 + m) ∧ f (0 + m) < 4294967296 := fun m hm => by simpa using hd m hm
  have e1 : ds 4294967296 f 0 n = ds 4294967296 f 0 k + 4294967296 ^ k * (f k + 4294967296 * ds 4294967296 f (k + 1) (n - k - 1)) := by
    have h1 := ds_add 4294967296 f 0 k (n - k)
    rw [show k + (n - k) = n from by omega, Nat.zero_add] at h1
    rw [h1]
    congr 2
    have h2 := ds_head 4294967296 f k (n - k - 1)
    rw [show n - k - 1 + 1 = n - k from by omega] at h2
    exact h2
  have b := ds_bound (B := 4294967296) (by omega) (f := f) (lo := 0) (n := k) (fun m hm => hd' m (by omega))
  have e2 : ((x / 4294967296 ^ k : Nat) : Int) = f k + 4294967296 * ds 4294967296 f (k + 1) (n - k - 1) := by
    rw [Int.natCast_ediv, ← h, e1, Int.natCast_pow, show ((4294967296 : Nat) : Int) = 4294967296 from rfl, Int.add_mul_ediv_left _ _ (Int.ne_of_gt (Int.pow_pos (by omega))), Int.ediv_eq_zero_of_lt b.1 b.2, Int.zero_add]
  unfold wd
  rw [Int.natCast_emod, e2]
  have := hd k hk
  omega

/-- the sum of n digits of a number from j on -/
theorem ds_wd (x j n : Nat) : ds 4294967296 (wd x) j n = ((x / 4294967296 ^ j % 4294967296 ^ n : Nat) : Int) := by
  have h := ds_digits 4294967296 (by omega) (x / 4294967296 ^ j) n
  rw [← h]
  apply ds_congr
  intro k hk
  simp only [Nat.zero_add, wd]
  rw [Nat.pow_add, ← Nat.div_div_eq_div_mul]


/-- what is multiplied and added, word by word -/
structure Mac (R R' D : Nat → Int) (i j : Nat) (x c : Int) : Prop where
  sum : ds 4294967296 R' i j + c * 4294967296 ^ j = ds 4294967296 R i j + x * ds 4294967296 D 0 j
  out : ∀ m, m < i ∨ i + j ≤ m → R' m = R m
  dig : ∀ m, 0 ≤ R' m ∧ R' m < 4294967296
  c0 : 0 ≤ c
  c1 : c ≤ 4294967295
theorem Mac.zero {R D : Nat → Int} (hd : ∀ m, 0 ≤ R m ∧ R m < 4294967296) (i : Nat) (x : Int) : Mac R R D i 0 x 0 :=
  ⟨by simp [ds], fun _ _ => rfl, hd, by omega, by omega⟩
theorem mac_le {x d : Int} (hx : 0 ≤ x ∧ x ≤ 4294967295) (hd : 0 ≤ d ∧ d ≤ 4294967295) : 0 ≤ x * d ∧ x * d ≤ 18446744065119617025 := by
  refine ⟨Int.mul_nonneg hx.1 hd.1, ?_⟩
  have := Int.mul_le_mul hx.2 hd.2 hd.1 (by omega : (0 : Int) ≤ 4294967295); omega
theorem Mac.step {R R' D : Nat → Int} {i j : Nat} {x c t : Int} (h : Mac R R' D i j x c) (hD : 0 ≤ D j ∧ D j ≤ 4294967295) (hx : 0 ≤ x ∧ x ≤ 4294967295) (ht : t = x * D j + R' (i + j) + c) :
    Mac R (upd R' (i + j) (t % 4294967296)) D i (j + 1) x (t / 4294967296) := by
  have p := mac_le hx hD
  have c0 := h.c0; have c1 := h.c1
  have d := h.dig (i + j)
  refine ⟨?_, fun m hm => ?_, fun m => ?_, by omega, by omega⟩
  · rw [ds_succ, ds_succ, ds_succ, ds_upd_out _ _ _ _ _ _ (by omega), upd_same, Nat.zero_add, Int.pow_succ, Int.mul_add]
    have e1 := h.sum
    have e2 := h.out (i + j) (by omega)
    have e : t % 4294967296 = x * D j + R' (i + j) + c - 4294967296 * (t / 4294967296) := by omega
    rw [e, ← e2]
    have e3 : ∀ u : Int, u * (4294967296 ^ j * 4294967296) = 4294967296 * (u * 4294967296 ^ j) := fun u => by rw [Int.mul_comm (4294967296 ^ j) 4294967296, Int.mul_left_comm]
    rw [e3]
    simp only [Int.sub_mul, Int.add_mul, Int.mul_assoc]
    omega
  · rw [upd_other _ _ (by omega)]; exact h.out m (by omega)
  · by_cases e : m = i + j
    · rw [e, upd_same]; omega
    · rw [upd_other _ _ e]; exact h.dig m
/-- the product of the first i words with all of a number's -/
structure Prd (A B : Nat) (lb i : Nat) (R : Nat → Int) : Prop where
  sum : ds 4294967296 R 0 (i + lb) = ((A % 4294967296 ^ i : Nat) : Int) * B
  zero : ∀ m, i + lb ≤ m → R m = 0
  dig : ∀ m, 0 ≤ R m ∧ R m < 4294967296
theorem Prd.zero' (A B lb : Nat) : Prd A B lb 0 (fun _ => 0) :=
  ⟨by rw [ds_zero (fun _ _ => rfl)]; simp [Nat.mod_one], fun _ _ => rfl, fun _ => by omega⟩
theorem Prd.step {A B lb i : Nat} {R R' D : Nat → Int} {c : Int} (h : Prd A B lb i R) (hm : Mac R R' D i lb (wd A i) c) (hB : (B : Int) = ds 4294967296 D 0 lb) :
    Prd A B lb (i + 1) (upd R' (i + lb) c) := by
  have c0 := hm.c0; have c1 := hm.c1
  refine ⟨?_, fun m hm' => ?_, fun m => ?_⟩
  · rw [show i + 1 + lb = i + lb + 1 from by omega, ds_succ, Nat.zero_add, upd_same, ds_upd_out _ _ _ _ _ _ (by omega), ds_add, Int.pow_add, Nat.zero_add]
    have e1 := h.sum
    rw [ds_add, Nat.zero_add] at e1
    have e2 : ds 4294967296 R' 0 i = ds 4294967296 R 0 i := ds_congr fun k hk => hm.out (0 + k) (by omega)
    have e3 := hm.sum
    rw [← hB] at e3
    have e4 : ((A % 4294967296 ^ (i + 1) : Nat) : Int) = ((A % 4294967296 ^ i : Nat) : Int) + 4294967296 ^ i * wd A i := by
      rw [Nat.mod_pow_succ]; unfold wd; simp
    rw [e4, e2, Int.add_mul, ← e1, Int.mul_assoc, Int.mul_left_comm c (4294967296 ^ i), Int.add_assoc, ← Int.mul_add, e3, Int.mul_add, Int.add_assoc]
  · rw [upd_other _ _ (by omega), hm.out m (by omega)]; exact h.zero m (by omega)
  · by_cases e : m = i + lb
    · rw [e, upd_same]; omega
    · rw [upd_other _ _ e]; exact hm.dig m
theorem Prd.done {A B la lb : Nat} {R : Nat → Int} (h : Prd A B lb la R) (hA : A < 4294967296 ^ la) : ds 4294967296 R 0 (la + lb) = ((A * B : Nat) : Int) := by
  rw [h.sum, Nat.mod_eq_of_lt hA]; simp

/-- words shifted -/
structure Shf (A s i : Nat) (R : Nat → Int) : Prop where
  sum : ds 4294967296 R 0 (i + 1) = ((A % 4294967296 ^ i : Nat) : Int) * 2 ^ s
  zero : ∀ m, i < m → R m = 0
  dig : ∀ m, 0 ≤ R m ∧ R m < 4294967296
  top : R i < 2 ^ s
theorem Shf.zero' (A s : Nat) : Shf A s 0 (fun _ => 0) :=
  ⟨by simp [ds, Nat.mod_one], fun _ _ => rfl, fun _ => by omega, Int.pow_pos (by omega)⟩
/-- a word times a power of 2 -/
theorem shf_parts (s : Nat) (hs : s ≤ 31) (x : Int) (hx : 0 ≤ x ∧ x ≤ 4294967295) : (x * 2 ^ s % 4294967296) % 2 ^ s = 0 ∧ 0 ≤ x * 2 ^ s / 4294967296 ∧ x * 2 ^ s / 4294967296 < 2 ^ s ∧ 0 ≤ x * 2 ^ s ∧ x * 2 ^ s ≤ 9223372036854775807 ∧ (2 : Int) ^ s ≤ 2147483648 := by
  rcases (by omega : s = 0 ∨ s = 1 ∨ s = 2 ∨ s = 3 ∨ s = 4 ∨ s = 5 ∨ s = 6 ∨ s = 7 ∨ s = 8 ∨ s = 9 ∨ s = 10 ∨ s = 11 ∨ s = 12 ∨ s = 13 ∨ s = 14 ∨ s = 15 ∨ s = 16 ∨ s = 17 ∨ s = 18 ∨ s = 19 ∨ s = 20 ∨ s = 21 ∨ s = 22 ∨ s = 23 ∨ s = 24 ∨ s = 25 ∨ s = 26 ∨ s = 27 ∨ s = 28 ∨ s = 29 ∨ s = 30 ∨ s = 31) with
    h | h | h | h | h | h | h | h | h | h | h | h | h | h | h | h | h | h | h | h | h | h | h | h | h | h | h | h | h | h | h | h <;> subst h <;> simp <;> omega
theorem Shf.step {A s i : Nat} {R : Nat → Int} (h : Shf A s i R) (hs : s ≤ 31) :
    Shf A s (i + 1) (upd (upd R i (wd A i * 2 ^ s % 4294967296 + R i)) (i + 1) (wd A i * 2 ^ s / 4294967296)) ∧ wd A i * 2 ^ s % 4294967296 + R i < 4294967296 := by
  obtain ⟨p1, p2, p3, p4, p5, p6⟩ := shf_parts s hs (wd A i) ⟨wd_nonneg A i, wd_le A i⟩
  have ht := h.top
  have hd := h.dig i
  have hlt : wd A i * 2 ^ s % 4294967296 + R i < 4294967296 := by
    have h1 : wd A i * 2 ^ s % 4294967296 < 4294967296 := by omega
    generalize wd A i * 2 ^ s % 4294967296 = y at p1 h1 ⊢
    rcases (by omega : s = 0 ∨ s = 1 ∨ s = 2 ∨ s = 3 ∨ s = 4 ∨ s = 5 ∨ s = 6 ∨ s = 7 ∨ s = 8 ∨ s = 9 ∨ s = 10 ∨ s = 11 ∨ s = 12 ∨ s = 13 ∨ s = 14 ∨ s = 15 ∨ s = 16 ∨ s = 17 ∨ s = 18 ∨ s = 19 ∨ s = 20 ∨ s = 21 ∨ s = 22 ∨ s = 23 ∨ s = 24 ∨ s = 25 ∨ s = 26 ∨ s = 27 ∨ s = 28 ∨ s = 29 ∨ s = 30 ∨ s = 31) with
      e | e | e | e | e | e | e | e | e | e | e | e | e | e | e | e | e | e | e | e | e | e | e | e | e | e | e | e | e | e | e | e <;> subst e <;> simp at p1 ht <;> omega
  refine ⟨⟨?_, fun m hm => ?_, fun m => ?_, ?_⟩, hlt⟩
  · rw [ds_succ, Nat.zero_add, upd_same, ds_upd_out _ _ _ _ _ _ (by omega), ds_succ, Nat.zero_add, upd_same, ds_upd_out _ _ _ _ _ _ (by omega)]
    have e1 := h.sum
    rw [ds_succ, Nat.zero_add] at e1
    have e4 : ((A % 4294967296 ^ (i + 1) : Nat) : Int) = ((A % 4294967296 ^ i : Nat) : Int) + 4294967296 ^ i * wd A i := by
      rw [Nat.mod_pow_succ]; unfold wd; simp
    rw [e4, Int.add_mul ((A % 4294967296 ^ i : Nat) : Int), ← e1, Int.pow_succ]
    have e5 : 4294967296 ^ i * wd A i * 2 ^ s = (wd A i * 2 ^ s % 4294967296) * 4294967296 ^ i + wd A i * 2 ^ s / 4294967296 * (4294967296 ^ i * 4294967296) := by
      rw [Int.mul_comm (4294967296 ^ i) 4294967296, ← Int.mul_assoc (wd A i * 2 ^ s / 4294967296), ← Int.add_mul, Int.mul_assoc, Int.mul_comm]
      congr 1
      omega
    rw [e5, Int.add_mul]; omega
  · rw [upd_other _ _ (by omega), upd_other _ _ (by omega)]; exact h.zero m (by omega)
  · by_cases e : m = i + 1
    · rw [e, upd_same]; omega
    · rw [upd_other _ _ e]
      by_cases e : m = i
      · rw [e, upd_same]; omega
      · rw [upd_other _ _ e]; exact h.dig m
  · rw [upd_same]; exact p3
theorem Shf.done {A s n : Nat} {R : Nat → Int} (h : Shf A s n R) (hA : A < 4294967296 ^ n) : ∀ k, k < n + 1 → R k = wd (A * 2 ^ s) k := by
  refine ds_word (fun k _ => h.dig k) ?_
  rw [h.sum, Nat.mod_eq_of_lt hA]; simp

/-- what is subtracted, word by word -/
structure SubW (R R' D : Nat → Int) (j i : Nat) (g b : Int) : Prop where
  sum : ds 4294967296 R' j i = ds 4294967296 R j i - g * ds 4294967296 D 0 i + b * 4294967296 ^ i
  out : ∀ m, m < j ∨ j + i ≤ m → R' m = R m
  dig : ∀ m, 0 ≤ R' m ∧ R' m < 4294967296
  b0 : 0 ≤ b
  b1 : b ≤ 4294967295
theorem SubW.zero {R D : Nat → Int} (hd : ∀ m, 0 ≤ R m ∧ R m < 4294967296) (j : Nat) (g : Int) : SubW R R D j 0 g 0 :=
  ⟨by simp [ds], fun _ _ => rfl, hd, by omega, by omega⟩
theorem SubW.step {R R' D : Nat → Int} {j i : Nat} {g b t p : Int} (h : SubW R R' D j i g b) (hD : 0 ≤ D i ∧ D i ≤ 4294967295) (hg : 0 ≤ g ∧ g ≤ 4294967295)
    (hp : p = g * D i) (ht : t = R' (i + j) - b - p % 4294967296) :
    SubW R (upd R' (i + j) (t % 4294967296)) D j (i + 1) g (p / 4294967296 - t / 4294967296) := by
  have q := mac_le hg hD
  rw [← hp] at q
  have b0 := h.b0; have b1 := h.b1
  have d := h.dig (i + j)
  refine ⟨?_, fun m hm => ?_, fun m => ?_, by omega, by omega⟩
  · rw [ds_succ, ds_succ, ds_succ, ds_upd_out _ _ _ _ _ _ (by omega), h.sum, Nat.add_comm j i, upd_same, Nat.zero_add, Int.pow_succ, ← h.out (i + j) (by omega)]
    have e : t % 4294967296 = R' (i + j) - g * D i - b + 4294967296 * (p / 4294967296 - t / 4294967296) := by omega
    rw [e]
    have e2 : ∀ u : Int, u * (4294967296 ^ i * 4294967296) = 4294967296 * (u * 4294967296 ^ i) := fun u => by rw [Int.mul_comm (4294967296 ^ i) 4294967296, Int.mul_left_comm]
    rw [e2]
    generalize p / 4294967296 - t / 4294967296 = z
    simp only [Int.sub_mul, Int.add_mul, Int.mul_add, Int.mul_assoc]
    omega
  · rw [upd_other _ _ (by omega)]; exact h.out m (by omega)
  · by_cases e : m = i + j
    · rw [e, upd_same]; omega
    · rw [upd_other _ _ e]; exact h.dig m

/-- what is added back, digit by digit -/
structure AddW (R R' D : Nat → Int) (j i : Nat) (c : Int) : Prop where
  sum : ds 4294967296 R' j i = ds 4294967296 R j i + ds 4294967296 D 0 i - c * 4294967296 ^ i
  out : ∀ m, m < j ∨ j + i ≤ m → R' m = R m
  dig : ∀ m, 0 ≤ R' m ∧ R' m < 4294967296
  c0 : 0 ≤ c
  c1 : c ≤ 1
theorem AddW.zero {R D : Nat → Int} (hd : ∀ m, 0 ≤ R m ∧ R m < 4294967296) (j : Nat) : AddW R R D j 0 0 :=
  ⟨by simp [ds], fun _ _ => rfl, hd, by omega, by omega⟩
theorem AddW.step {R R' D : Nat → Int} {j i : Nat} {c : Int} (h : AddW R R' D j i c) (hD : 0 ≤ D i ∧ D i ≤ 4294967295) :
    AddW R (upd R' (i + j) ((c + (R' (i + j) + D i)) % 4294967296)) D j (i + 1) ((c + (R' (i + j) + D i)) / 4294967296) := by
  have c0 := h.c0; have c1 := h.c1
  have d := h.dig (i + j)
  refine ⟨?_, fun m hm => ?_, fun m => ?_, by omega, by omega⟩
  · rw [ds_succ, ds_succ, ds_succ, ds_upd_out _ _ _ _ _ _ (by omega), h.sum, Nat.add_comm j i, upd_same, Nat.zero_add, Int.pow_succ, ← h.out (i + j) (by omega)]
    have e : (c + (R' (i + j) + D i)) % 4294967296 = c + (R' (i + j) + D i) - 4294967296 * ((c + (R' (i + j) + D i)) / 4294967296) := by omega
    rw [e]
    have e2 : ∀ u : Int, u * (4294967296 ^ i * 4294967296) = 4294967296 * (u * 4294967296 ^ i) := fun u => by rw [Int.mul_comm (4294967296 ^ i) 4294967296, Int.mul_left_comm]
    rw [e2]
    simp only [Int.sub_mul, Int.add_mul, Int.mul_assoc]
    omega
  · rw [upd_other _ _ (by omega)]; exact h.out m (by omega)
  · by_cases e : m = i + j
    · rw [e, upd_same]; omega
    · rw [upd_other _ _ e]; exact h.dig m

/-- the state of the division: the digits from J on hold the remainder of the number's upper part -/
structure WInv (a b : Nat) (n la J : Nat) (R : Nat → Int) : Prop where
  hi : ds 4294967296 R J n = ((a / 4294967296 ^ J % b : Nat) : Int)
  low : ∀ m, m < J → R m = wd a m
  zero : ∀ m, J + n ≤ m → m ≤ la → R m = 0
  dig : ∀ m, 0 ≤ R m ∧ R m < 4294967296
theorem WInv.window {a b n la j : Nat} {R : Nat → Int} (h : WInv a b n la (j + 1) R) :
    ds 4294967296 R j (n + 1) = ((a / 4294967296 ^ j % 4294967296 + 4294967296 * (a / 4294967296 ^ (j + 1) % b) : Nat) : Int) := by
  rw [ds_head, h.hi, h.low j (by omega)]; unfold wd; omega

/-- what the guess of a word of the quotient knows: the upper words of divisor and window -/
structure Kn (Wn b v1 v2 u0 u1 u2 bl ul P : Int) : Prop where
  hP : 0 < P
  hb : b = (4294967296 * v1 + v2) * P + bl
  bl0 : 0 ≤ bl
  bl1 : bl < P
  hw : Wn = (4294967296 * (4294967296 * u0 + u1) + u2) * P + ul
  ul0 : 0 ≤ ul
  ul1 : ul < P
  v10 : 1 ≤ v1
  v11 : v1 ≤ 4294967295
  v20 : 0 ≤ v2
  v21 : v2 ≤ 4294967295
  u00 : 0 ≤ u0
  u01 : u0 ≤ 4294967295
  u10 : 0 ≤ u1
  u11 : u1 ≤ 4294967295
  u20 : 0 ≤ u2
  u21 : u2 ≤ 4294967295
  lt : Wn < 4294967296 * b
section
variable {Wn b v1 v2 u0 u1 u2 bl ul P : Int} (h : Kn Wn b v1 v2 u0 u1 u2 bl ul P)
include h
theorem Kn.pos : 0 < b := by
  obtain ⟨hP, hb, bl0, _, _, _, _, v10, _, v20, _⟩ := h
  rw [hb]
  have := Int.mul_pos (show (0 : Int) < 4294967296 * v1 + v2 by omega) hP
  omega
theorem Kn.top : u0 ≤ v1 := by
  have hP := h.hP; have hb := h.hb; have hw := h.hw; have b1 := h.bl1; have l := h.lt; have ul0 := h.ul0
  rcases Int.lt_or_le v1 u0 with hc | hc
  · have m1 : (4294967296 * v1 + v2 + 1) * P ≤ (4294967296 * u0) * P := Int.mul_le_mul_of_nonneg_right (by have := h.v21; omega) (by omega)
    have m2 : 0 ≤ (4294967296 * u1 + u2) * P := Int.mul_nonneg (by have := h.u10; have := h.u20; omega) (by omega)
    simp only [Int.add_mul, Int.mul_add, Int.mul_assoc, Int.one_mul] at m1 m2 hb hw
    omega
  · exact hc
theorem Kn.start : Wn / b ≤ (4294967296 * u0 + u1) / v1 := by
  have hP := h.hP; have hb := h.hb; have hw := h.hw; have ul1 := h.ul1
  have hbp := h.pos
  rw [Int.le_ediv_iff_mul_le (by have := h.v10; omega)]
  have h0 : 0 ≤ Wn / b := Int.ediv_nonneg (by
    rw [hw]; have := Int.mul_nonneg (show (0 : Int) ≤ 4294967296 * (4294967296 * u0 + u1) + u2 by have := h.u00; have := h.u10; have := h.u20; omega) (Int.le_of_lt hP); have := h.ul0; omega) (by omega)
  have h1 : Wn / b * b ≤ Wn := Int.ediv_mul_le _ (by omega)
  have h2 : Wn / b * ((4294967296 * v1) * P) ≤ Wn / b * b := by
    refine Int.mul_le_mul_of_nonneg_left ?_ h0
    have := Int.mul_nonneg h.v20 (Int.le_of_lt hP)
    have := h.bl0
    rw [hb, Int.add_mul]; omega
  have h3 : (Wn / b * v1) * (4294967296 * P) < (4294967296 * u0 + u1 + 1) * (4294967296 * P) := by
    have e : (Wn / b * v1) * (4294967296 * P) = Wn / b * ((4294967296 * v1) * P) := by
      rw [Int.mul_assoc, Int.mul_left_comm v1, Int.mul_assoc]
    have m : u2 * P ≤ 4294967295 * P := Int.mul_le_mul_of_nonneg_right h.u21 (by omega)
    rw [e]
    simp only [Int.add_mul, Int.mul_add, Int.mul_assoc, Int.one_mul, Int.mul_left_comm _ (4294967296 : Int) P] at *
    omega
  have := Int.lt_of_mul_lt_mul_right h3 (by omega)
  omega
/-- the test holds: the guess is too great -/
theorem Kn.less {q r : Int} (hq : 0 ≤ q) (he : q * v1 + r = 4294967296 * u0 + u1) (ht : 4294967296 * r + u2 < q * v2) : Wn / b < q := by
  have hP := h.hP; have hb := h.hb; have hw := h.hw; have ul1 := h.ul1
  apply Int.ediv_lt_of_lt_mul h.pos
  have m1 : (4294967296 * (4294967296 * u0 + u1) + u2 + 1) * P ≤ (4294967296 * (q * v1) + q * v2) * P := Int.mul_le_mul_of_nonneg_right (by omega) (by omega)
  have m2 : 0 ≤ q * bl := Int.mul_nonneg hq h.bl0
  have e : q * b = (4294967296 * (q * v1) + q * v2) * P + q * bl := by
    rw [hb, Int.mul_add, ← Int.mul_assoc, Int.mul_add, Int.mul_left_comm]
  rw [e]
  rw [Int.add_mul _ 1] at m1
  omega
/-- the guess is not a word: it is too great -/
theorem Kn.less' {q : Int} (hq : 4294967296 ≤ q) : Wn / b < q := by
  have := Int.ediv_lt_of_lt_mul h.pos h.lt
  omega
/-- a guess that is no word has a small remainder -/
theorem Kn.small {q r : Int} (hq : 4294967296 ≤ q) (he : q * v1 + r = 4294967296 * u0 + u1) : r < 4294967296 := by
  have h1 : 4294967296 * v1 ≤ q * v1 := Int.mul_le_mul_of_nonneg_right hq (by have := h.v10; omega)
  have := h.top
  have := h.u11
  omega
/-- the test fails: the guess is at most 1 too great -/
theorem Kn.near {q r : Int} (hq : 0 ≤ q ∧ q ≤ 4294967295) (he : q * v1 + r = 4294967296 * u0 + u1) (ht : 4294967296 ≤ r ∨ q * v2 ≤ 4294967296 * r + u2) : (q - 1) * b ≤ Wn := by
  have hP := h.hP; have hb := h.hb; have hw := h.hw; have ul0 := h.ul0; have bl1 := h.bl1
  have h3 : q * v2 ≤ 4294967296 * r + u2 := by
    rcases ht with ht | ht
    · have := (mac_le hq ⟨h.v20, h.v21⟩).2
      have := h.u20
      omega
    · exact ht
  have hw0 : 0 ≤ Wn := by
    rw [hw]; have := Int.mul_nonneg (show (0 : Int) ≤ 4294967296 * (4294967296 * u0 + u1) + u2 by have := h.u00; have := h.u10; have := h.u20; omega) (Int.le_of_lt hP); omega
  rcases Int.lt_or_le 0 q with hp | hp
  · have m1 : (q - 1) * b ≤ (q - 1) * ((4294967296 * v1 + v2 + 1) * P) := by
      refine Int.mul_le_mul_of_nonneg_left ?_ (by omega)
      rw [hb, Int.add_mul _ 1]; omega
    have m2 : (q - 1) * (4294967296 * v1 + v2 + 1) ≤ 4294967296 * (4294967296 * u0 + u1) + u2 := by
      have e : (q - 1) * (4294967296 * v1 + v2 + 1) = 4294967296 * (q * v1) + q * v2 + q - 4294967296 * v1 - v2 - 1 := by
        rw [Int.sub_mul, Int.mul_add, Int.mul_add, Int.mul_left_comm]; omega
      have := h.v10; have := h.v20
      rw [e]; omega
    have m3 := Int.mul_le_mul_of_nonneg_right m2 (Int.le_of_lt hP)
    rw [Int.mul_assoc] at m3
    omega
  · obtain rfl : q = 0 := by omega
    have := h.pos
    omega
end
/-- the window and the divisor as the guess sees them -/
theorem WInv.kn {a b n la j : Nat} {R D : Nat → Int} (h : WInv a b (n + 2) la (j + 1) R) (hb : (b : Int) = ds 4294967296 D 0 (n + 2)) (hD : ∀ m, 0 ≤ D m ∧ D m ≤ 4294967295) (hn : 1 ≤ D (n + 1)) :
    Kn ((a / 4294967296 ^ j % 4294967296 + 4294967296 * (a / 4294967296 ^ (j + 1) % b) : Nat) : Int) b (D (n + 1)) (D n) (R (j + n + 2)) (R (j + n + 1)) (R (j + n)) (ds 4294967296 D 0 n) (ds 4294967296 R j n) (4294967296 ^ n) := by
  have hw := h.window
  have bD := ds_bound (B := 4294967296) (by omega) (f := D) (lo := 0) (n := n) (fun k _ => by have := hD (0 + k); omega)
  have bR := ds_bound (B := 4294967296) (by omega) (f := R) (lo := j) (n := n) (fun k _ => h.dig (j + k))
  have r0 := h.dig (j + n + 2)
  have r1 := h.dig (j + n + 1)
  have r2 := h.dig (j + n)
  have d0 := hD (n + 1)
  have d1 := hD n
  have p : (0 : Int) < 4294967296 ^ n := Int.pow_pos (by omega)
  have hb2 : (b : Int) = (4294967296 * D (n + 1) + D n) * 4294967296 ^ n + ds 4294967296 D 0 n := by
    rw [hb, ds_succ, ds_succ, Nat.zero_add, Nat.zero_add, Int.pow_succ, Int.add_mul, Int.mul_assoc, Int.mul_comm (4294967296 ^ n) 4294967296, Int.mul_left_comm]
    omega
  have hbp : 0 < b := by
    have : (0 : Int) < (4294967296 * D (n + 1) + D n) * 4294967296 ^ n := Int.mul_pos (by omega) p
    omega
  refine ⟨p, hb2, bD.1, bD.2, ?_, bR.1, bR.2, hn, by omega, by omega, by omega, by omega, by omega, by omega, by omega, by omega, by omega, ?_⟩
  · have q1 : (4294967296 : Int) ^ (n + 1) = 4294967296 * 4294967296 ^ n := by rw [Int.pow_succ, Int.mul_comm]
    have q2 : (4294967296 : Int) ^ (n + 1 + 1) = 4294967296 * (4294967296 * 4294967296 ^ n) := by rw [Int.pow_succ, Int.mul_comm, q1]
    rw [← hw, show n + 2 + 1 = n + 1 + 1 + 1 from rfl, ds_succ, ds_succ, ds_succ, q1, q2, show j + (n + 1 + 1) = j + n + 2 from by omega, show j + (n + 1) = j + n + 1 from by omega]
    simp only [Int.add_mul, Int.mul_add, Int.mul_assoc, Int.mul_left_comm _ (4294967296 : Int)]
    omega
  · have := Nat.mod_lt (a / 4294967296 ^ (j + 1)) hbp
    omega
/-- within a step -/
structure WMid (a b : Nat) (n la j : Nat) (R : Nat → Int) (g top : Int) : Prop where
  sum : ((a / 4294967296 ^ j % 4294967296 + 4294967296 * (a / 4294967296 ^ (j + 1) % b) : Nat) : Int) = ds 4294967296 R j n + top * 4294967296 ^ n + g * b
  le : (((a / 4294967296 ^ j % 4294967296 + 4294967296 * (a / 4294967296 ^ (j + 1) % b)) / b : Nat) : Int) ≤ g
  ge : (g - 1) * b ≤ ((a / 4294967296 ^ j % 4294967296 + 4294967296 * (a / 4294967296 ^ (j + 1) % b) : Nat) : Int)
  low : ∀ m, m < j → R m = wd a m
  zero : ∀ m, j + n < m → m ≤ la → R m = 0
  dig : ∀ m, 0 ≤ R m ∧ R m < 4294967296
theorem WMid.start {a b n la j : Nat} {R R' D : Nat → Int} {g borrow : Int} (h : WInv a b n la (j + 1) R) (hs : SubW R R' D j n g borrow) (hb : (b : Int) = ds 4294967296 D 0 n)
    (hg : (((a / 4294967296 ^ j % 4294967296 + 4294967296 * (a / 4294967296 ^ (j + 1) % b)) / b : Nat) : Int) ≤ g) (hg2 : (g - 1) * b ≤ ((a / 4294967296 ^ j % 4294967296 + 4294967296 * (a / 4294967296 ^ (j + 1) % b) : Nat) : Int)) :
    WMid a b n la j R' g (R' (j + n) - borrow) := by
  have hw := h.window
  refine ⟨?_, hg, hg2, fun m hm => ?_, fun m h1 h2 => ?_, hs.dig⟩
  · rw [← hw, ds_succ, hs.sum, hs.out (j + n) (by omega), hb, Int.sub_mul]; omega
  · rw [hs.out m (by omega)]; exact h.low m (by omega)
  · rw [hs.out m (by omega)]; exact h.zero m (by omega) h2
theorem WMid.upd {a b n la j : Nat} {R : Nat → Int} {g top v : Int} (h : WMid a b n la j R g top) (hv : 0 ≤ v ∧ v < 4294967296) : WMid a b n la j (upd R (j + n) v) g top := by
  refine ⟨?_, h.le, h.ge, fun m hm => ?_, fun m h1 h2 => ?_, fun m => ?_⟩
  · rw [ds_upd_out _ _ _ _ _ _ (by omega)]; exact h.sum
  · rw [upd_other _ _ (by omega)]; exact h.low m hm
  · rw [upd_other _ _ (by omega)]; exact h.zero m h1 h2
  · by_cases e : m = j + n
    · rw [e, upd_same]; exact hv
    · rw [upd_other _ _ e]; exact h.dig m
theorem WMid.back {a b n la j : Nat} {R R' D : Nat → Int} {g top c : Int} (h : WMid a b n la j R g top) (ha : AddW R R' D j n c) (hb : (b : Int) = ds 4294967296 D 0 n) (hbp : 0 < b) (ht : top < 0) :
    WMid a b n la j R' (g - 1) (top + c) := by
  have bR := ds_bound (B := 4294967296) (by omega) (f := R) (lo := j) (n := n) (fun k _ => h.dig (j + k))
  have hlt : (((a / 4294967296 ^ j % 4294967296 + 4294967296 * (a / 4294967296 ^ (j + 1) % b)) / b : Nat) : Int) < g := by
    rw [Int.natCast_ediv]
    apply Int.ediv_lt_of_lt_mul (by omega)
    rw [h.sum]
    have : top * 4294967296 ^ n ≤ (-1) * 4294967296 ^ n := Int.mul_le_mul_of_nonneg_right (by omega) (by omega)
    omega
  refine ⟨?_, by omega, ?_, fun m hm => ?_, fun m h1 h2 => ?_, ha.dig⟩
  · rw [h.sum, ha.sum, ← hb, Int.sub_mul, Int.add_mul]; omega
  · have := h.ge
    simp only [Int.sub_mul, Int.one_mul] at this ⊢
    omega
  · rw [ha.out m (by omega)]; exact h.low m hm
  · rw [ha.out m (by omega)]; exact h.zero m h1 h2
/-- the guess was the quotient's word: the remainder stands -/
theorem WMid.done {a b n la j : Nat} {R : Nat → Int} {g top : Int} (h : WMid a b n la j R g top) (hbp : 0 < b) (hbn : b ≤ 4294967296 ^ n) (hge : g * b ≤ ((a / 4294967296 ^ j % 4294967296 + 4294967296 * (a / 4294967296 ^ (j + 1) % b) : Nat) : Int)) :
    WInv a b n la j (Num.upd R (j + n) 0) ∧ top = 0 := by
  have bR := ds_bound (B := 4294967296) (by omega) (f := R) (lo := j) (n := n) (fun k _ => h.dig (j + k))
  have hs := h.sum
  have hle := h.le
  generalize hW : a / 4294967296 ^ j % 4294967296 + 4294967296 * (a / 4294967296 ^ (j + 1) % b) = Wn at *
  have p : (0 : Int) < 4294967296 ^ n := Int.pow_pos (by omega)
  have hge : g ≤ ((Wn / b : Nat) : Int) := by
    rw [Int.natCast_ediv, Int.le_ediv_iff_mul_le (by omega)]; omega
  have hg : g = ((Wn / b : Nat) : Int) := by omega
  have hmod : ds 4294967296 R j n + top * 4294967296 ^ n = ((Wn % b : Nat) : Int) := by
    have h1 := Nat.div_add_mod Wn b
    have h2 : (b : Int) * ((Wn / b : Nat) : Int) + ((Wn % b : Nat) : Int) = (Wn : Int) := by exact_mod_cast h1
    rw [hs, ← hg, Int.mul_comm] at h2; omega
  have hlt := Nat.mod_lt Wn hbp
  have hpn : ((4294967296 : Int) ^ n) = ((4294967296 ^ n : Nat) : Int) := by simp
  have htop : top = 0 := by
    rcases Int.lt_or_le 0 top with h1 | h1
    · have : 1 * 4294967296 ^ n ≤ top * 4294967296 ^ n := Int.mul_le_mul_of_nonneg_right (by omega) (by omega)
      omega
    · rcases Int.lt_or_le top 0 with h2 | h2
      · have : top * 4294967296 ^ n ≤ (-1) * 4294967296 ^ n := Int.mul_le_mul_of_nonneg_right (by omega) (by omega)
        omega
      · omega
  have ha : a / 4294967296 ^ j = 4294967296 * (a / 4294967296 ^ (j + 1)) + a / 4294967296 ^ j % 4294967296 := by
    rw [Nat.pow_succ, ← Nat.div_div_eq_div_mul]; omega
  have hdiv : a / 4294967296 ^ j % b = Wn % b := by
    have h1 := Nat.div_add_mod (a / 4294967296 ^ (j + 1)) b
    have e : a / 4294967296 ^ j = b * (4294967296 * (a / 4294967296 ^ (j + 1) / b)) + Wn := by
      rw [ha, ← hW]
      have : 4294967296 * (a / 4294967296 ^ (j + 1)) = 4294967296 * (b * (a / 4294967296 ^ (j + 1) / b)) + 4294967296 * (a / 4294967296 ^ (j + 1) % b) := by rw [← Nat.mul_add, h1]
      rw [this, Nat.mul_left_comm 4294967296 b]; omega
    conv => lhs; rw [e]
    rw [Nat.mul_add_mod]
  refine ⟨⟨?_, fun m hm => ?_, fun m h1 h2 => ?_, fun m => ?_⟩, htop⟩
  · rw [ds_upd_out _ _ _ _ _ _ (by omega), hdiv]; rw [htop] at hmod; omega
  · rw [upd_other _ _ (by omega)]; exact h.low m hm
  · by_cases e : m = j + n
    · rw [e, upd_same]
    · rw [upd_other _ _ e]; exact h.zero m (by omega) h2
  · by_cases e : m = j + n
    · rw [e, upd_same]; omega
    · rw [upd_other _ _ e]; exact h.dig m
theorem WMid.quot {a b n la j : Nat} {R : Nat → Int} {g top : Int} (h : WMid a b n la j R g top) (ht : 0 ≤ top) : g * b ≤ ((a / 4294967296 ^ j % 4294967296 + 4294967296 * (a / 4294967296 ^ (j + 1) % b) : Nat) : Int) := by
  have bR := ds_bound (B := 4294967296) (by omega) (f := R) (lo := j) (n := n) (fun k _ => h.dig (j + k))
  have := Int.mul_nonneg ht (show (0 : Int) ≤ 4294967296 ^ n by omega)
  rw [h.sum]; omega
theorem WInv.start {a b n la J : Nat} (hla : la + 1 = J + n) (ha : a / 4294967296 ^ J < b) (hbn : b ≤ 4294967296 ^ n) : WInv a b n la J (wd a) :=
  ⟨by rw [ds_wd, Nat.mod_eq_of_lt ha, Nat.mod_eq_of_lt (by omega)], fun _ _ => rfl, fun m h1 h2 => by omega, fun m => ⟨wd_nonneg a m, wd_lt a m⟩⟩
/-- the words of the remainder, scaled back -/
theorem rest_word (r s i : Nat) (hs : s ≤ 31) : wd (r * 2 ^ s) i / 2 ^ s + wd (r * 2 ^ s) (i + 1) * 2 ^ (32 - s) % 4294967296 = wd r i := by
  unfold wd
  rw [Nat.pow_succ, ← Nat.div_div_eq_div_mul]
  have e : r / 4294967296 ^ i = (r * 2 ^ s / 4294967296 ^ i) / 2 ^ s := by
    rw [Nat.div_div_eq_div_mul, Nat.mul_comm (4294967296 ^ i), ← Nat.div_div_eq_div_mul, Nat.mul_div_cancel _ (Nat.two_pow_pos s)]
  rw [e]
  generalize r * 2 ^ s / 4294967296 ^ i = X
  rcases (by omega : s = 0 ∨ s = 1 ∨ s = 2 ∨ s = 3 ∨ s = 4 ∨ s = 5 ∨ s = 6 ∨ s = 7 ∨ s = 8 ∨ s = 9 ∨ s = 10 ∨ s = 11 ∨ s = 12 ∨ s = 13 ∨ s = 14 ∨ s = 15 ∨ s = 16 ∨ s = 17 ∨ s = 18 ∨ s = 19 ∨ s = 20 ∨ s = 21 ∨ s = 22 ∨ s = 23 ∨ s = 24 ∨ s = 25 ∨ s = 26 ∨ s = 27 ∨ s = 28 ∨ s = 29 ∨ s = 30 ∨ s = 31) with
    h | h | h | h | h | h | h | h | h | h | h | h | h | h | h | h | h | h | h | h | h | h | h | h | h | h | h | h | h | h | h | h <;> subst h <;> simp <;> omega

/-- how many words remain when the leading zeros are cut -/
def tl (f : Nat → Int) : Nat → Nat
  | 0 => 0
  | n + 1 => if f n = 0 then tl f n else n + 1
theorem tl_le (f : Nat → Int) : ∀ n, tl f n ≤ n
  | 0 => Nat.le_refl _
  | n + 1 => by
    unfold tl
    split
    · have := tl_le f n; omega
    · omega
theorem tl_sum (f : Nat → Int) : ∀ n, ds 4294967296 f 0 (tl f n) = ds 4294967296 f 0 n
  | 0 => rfl
  | n + 1 => by
    unfold tl
    split
    · rename_i h
      rw [tl_sum f n, ds_succ, Nat.zero_add, h]; simp
    · rfl
theorem tl_top (f : Nat → Int) : ∀ n, 0 < tl f n → f (tl f n - 1) ≠ 0
  | 0, h => by simp [tl] at h
  | n + 1, h => by
    unfold tl at h ⊢
    split
    · rename_i e
      rw [if_pos e] at h
      exact tl_top f n h
    · rename_i e
      exact e
end Go.Proofs.YtdlbnioidfhhcaaGreat.Num

/- Contracts of the package modular: trim, limbs, product, shifted, number. -/
namespace Go.Proofs.YtdlbnioidfhhcaaGreat
open Go.RowKit Num
open Go.Lib (byteCells byteCells_length byteCells_append)
set_option maxRecDepth 20000

/-- words lie in block b from its beginning -/
def Wds (w : World) (b n : Nat) (f : Nat → Int) : Prop := ∀ i, i < n → w.cell? ⟨b, i, none⟩ = some (.int .u32 (f i))
theorem Wds.below {w w' : World} {b n B : Nat} {f : Nat → Int} (h : Wds w b n f) (hb : Below B w w') (hB : b < B) : Wds w' b n f := by
  intro i hi
  rw [← h i hi]
  unfold World.cell?
  rw [show w'.heap[(⟨b, i, none⟩ : Addr).block]? = _ from hb.block b hB]
theorem Wds.take {w : World} {b n m : Nat} {f : Nat → Int} (h : Wds w b n f) (hm : m ≤ n) : Wds w b m f := fun i hi => h i (by omega)
theorem Arr.wds {w : World} {b n : Nat} {t : TypeId} {f : Nat → Int} (h : Arr w b t .u32 n f) : Wds w b n f := fun _ hi => h.cell hi

theorem trim_any (b n c : Nat) (f : Nat → Int) (w : World) (hn : n ≤ c) (hc : c ≤ 1000) (h : Wds w b n f) :
    Calls Tryz.prog 119 #[.slice (some ⟨b, 0, none⟩) n c] w fun e w' => e = .returned (.slice (some ⟨b, 0, none⟩) (tl f n) c) ∧ w = w' := by
  go_enter Tryz.func119, Tryz.ntmps119
  go_wp2_with fail
  go_loop [0] (fun v => ∃ k : Nat, k ≤ n ∧ tl f k = tl f n ∧ v = .slice (some ⟨b, 0, none⟩) k c) (fun v => slen v)
  case atStart => exact ⟨n, by omega, rfl, rfl⟩
  case round =>
    obtain ⟨k, hk, ht, rfl⟩ := hrel
    rcases k with _ | k
    · have HT := Lib.hid ht; clear ht
      go_wp2_with fail
      go_ret
      exact ⟨by rw [← HT.out]; rfl, rfl⟩
    · have hc0 := h k (by omega)
      by_cases e : f k = 0
      · have e1 : (f k == 0) = true := by rw [beq_iff_eq]; exact e
        have ht2 : tl f k = tl f n := by rw [← ht, tl, if_pos e]
        rw [e] at hc0
        clear ht e e1
        go_wp2_with fail
        go_round
        case rel => exact ⟨k, by omega, ht2, rfl⟩
        case measure => simp [slen]
      · have e1 : (f k == 0) = false := by rw [beq_eq_false_iff_ne]; exact e
        have ht2 : tl f n = k + 1 := by rw [← ht, tl, if_neg e]
        have HT := Lib.hid ht2
        clear ht e ht2
        go_wp2_with fail
        go_ret
        exact ⟨by rw [HT.out]; rfl, rfl⟩

theorem info_w32 : (Tryz.prog.info? 169).map (fun i => (i.zero, i.size, i.bytes)) = some (some (.int .u32 0), 1, 4) := by kernel_rfl
set_option maxHeartbeats 1000000 in
theorem mprod_any (b1 n1 c1 b2 n2 c2 : Nat) (A B : Nat) (w : World) (h1 : n1 ≤ c1) (h2 : n2 ≤ c2) (g1 : c1 ≤ 1000) (g2 : c2 ≤ 1000) (ha : Wds w b1 n1 (wd A)) (hb : Wds w b2 n2 (wd B)) (l1 : b1 < w.heap.size) (l2 : b2 < w.heap.size)
    (hA : A < 4294967296 ^ n1) (hB : B < 4294967296 ^ n2) :
    Calls Tryz.prog 102 #[.slice (some ⟨b1, 0, none⟩) n1 c1, .slice (some ⟨b2, 0, none⟩) n2 c2] w fun e w' => e = .returned (.slice (some ⟨w.heap.size, 0, none⟩) (n1 + n2) (n1 + n2)) ∧ Arr w' w.heap.size 169 .u32 (n1 + n2) (wd (A * B)) ∧ Below w.heap.size w w' := by
  have hdB : (B : Int) = ds 4294967296 (wd B) 0 n2 := by rw [ds_wd, Nat.pow_zero, Nat.div_one, Nat.mod_eq_of_lt hB]
  have hlt : A * B < 4294967296 ^ (n1 + n2) := by rw [Nat.pow_add]; exact Nat.mul_lt_mul'' hA hB
  have HA := Lib.hid hA; clear hA
  have HB := Lib.hid hB; clear hB
  have HDB := Lib.hid hdB; clear hdB
  have HLT := Lib.hid hlt; clear hlt
  obtain ⟨i0, hi, hz0, hz1, hz2⟩ := info_parts info_w32
  go_enter Tryz.func102, Tryz.ntmps102
  go_wp2_with (at_make; refine wpList_make_arr _ rfl _ _ _ rfl 169 i0 .u32 4 Tryz.underlying157 hi hz0 hz1 hz2 _ _ _ _ (n1 + n2) rfl rfl ?_ ?_ ?_ ?_ ?_ <;> first | (intro w1 hr hbl hsz) | omega | (unfold maxLen; omega))
  clear hi hz0 hz1 hz2
  go_loopw [20] (fun i wr => ∃ (k : Nat) (R : Nat → Int), k ≤ n1 ∧ i = .int .i64 k ∧ Arr wr w.heap.size 169 .u32 (n1 + n2) R ∧ Prd A B n2 k R ∧ Below w.heap.size w wr)
    (fun i _ => n1 - (intOf i).toNat)
  case atStart => exact ⟨0, _, by omega, rfl, hr, Prd.zero' A B n2, hbl⟩
  case round =>
    clear hr hbl hsz
    obtain ⟨k, R, hk, rfl, hr, hp, hbl⟩ := hrel
    by_cases hlt : k < n1
    · have q1 := wd_nonneg A k
      have q2 := wd_le A k
      have hc1 := ha.below hbl l1 k hlt
      go_wp2_with fail
      obtain ⟨wo, rfl⟩ : ∃ wo : World, wo = wr := ⟨_, rfl⟩
      go_loopw [8, 27] (fun c i wr => ∃ (j : Nat) (ca : Int) (R' : Nat → Int), j ≤ n2 ∧ i = .int .i64 j ∧ c = .int .u64 ca ∧ Arr wr w.heap.size 169 .u32 (n1 + n2) R' ∧ Mac R R' (wd B) k j (wd A k) ca ∧ Below w.heap.size w wr)
        (fun _ i _ => n2 - (intOf i).toNat)
      case atStart => exact ⟨0, 0, R, by omega, rfl, rfl, hr, Mac.zero hp.dig k _, hbl⟩
      case round =>
        clear hr hbl hc1
        obtain ⟨j, ca, R', hj, rfl, rfl, hr, hm, hbl⟩ := hrel
        by_cases hlt2 : j < n2
        · have p1 := wd_nonneg B j
          have p2 := wd_le B j
          have p3 := mac_le ⟨q1, q2⟩ ⟨p1, p2⟩
          have p4 := p3.1
          have p5 := p3.2
          clear p3
          have c0 := hm.c0
          have c3 := hm.c1
          have d := hm.dig (k + j)
          have hc2 := hb.below hbl l2 j hlt2
          have hc3 := hr.cell (show k + j < n1 + n2 by omega)
          have hfr := hr.free (k + j)
          go_wp2_with fail
          go_roundw
          case rel => exact ⟨j + 1, _, _, by omega, by go_num, rfl, hr.set (k + j) _, hm.step ⟨p1, p2⟩ ⟨q1, q2⟩ rfl, hbl.setCell (Nat.le_refl _) _⟩
          case measure => simp [intOf]; omega
        · obtain rfl : n2 = j := by omega
          have c0 := hm.c0
          have c3 := hm.c1
          have hc3 := hr.cell (show k + n2 < n1 + n2 by omega)
          have hfr := hr.free (k + n2)
          go_wp2_with fail
          go_roundw
          case rel => exact ⟨k + 1, _, by omega, by go_num, hr.set (k + n2) _, hp.step hm HDB.out, hbl.setCell (Nat.le_refl _) _⟩
          case measure => simp [intOf]; omega
    · obtain rfl : k = n1 := by omega
      have hs := hp.done HA.out
      have hw := ds_word (fun k _ => hp.dig k) hs
      have HR := Lib.hid (hr.congr hw)
      clear hs hw hr hp
      go_wp2_with fail
      go_ret
      exact ⟨rfl, HR.out, hbl⟩

theorem or_u32_right (i : Nat) (x y : Int) (hx₀ : 0 ≤ x) (hx : x % 2 ^ i = 0) (hx₁ : x < 2 ^ 32) (hy₀ : 0 ≤ y) (hy : y < 2 ^ i) (hi : i ≤ 32) : bits .or .u32 y x = x + y := by
  have hc : bits .or .u32 y x = bits .or .u32 x y := by simp only [bits, BitVec.or_comm]
  rw [hc, or_u32 i x y hx₀ hx hx₁ hy₀ hy hi]
set_option maxHeartbeats 1000000 in
theorem shifted_any (b n c s A : Nat) (w : World) (hn : n ≤ c) (hc : c ≤ 1000) (hs : s ≤ 31) (ha : Wds w b n (wd A)) (lb : b < w.heap.size) (hA : A < 4294967296 ^ n) :
    Calls Tryz.prog 121 #[.slice (some ⟨b, 0, none⟩) n c, .int .i64 s] w fun e w' => e = .returned (.slice (some ⟨w.heap.size, 0, none⟩) (n + 1) (n + 1)) ∧ Arr w' w.heap.size 169 .u32 (n + 1) (wd (A * 2 ^ s)) ∧ Below w.heap.size w w' := by
  have HA := Lib.hid hA; clear hA
  obtain ⟨i0, hi, hz0, hz1, hz2⟩ := info_parts info_w32
  go_enter Tryz.func121, Tryz.ntmps121
  go_wp2_with (at_make; refine wpList_make_arr _ rfl _ _ _ rfl 169 i0 .u32 4 Tryz.underlying157 hi hz0 hz1 hz2 _ _ _ _ (n + 1) rfl rfl ?_ ?_ ?_ ?_ ?_ <;> first | (intro w1 hr hbl hsz) | omega | (unfold maxLen; omega))
  clear hi hz0 hz1 hz2
  go_loopw [15] (fun i wr => ∃ (k : Nat) (R : Nat → Int), k ≤ n ∧ i = .int .i64 k ∧ Arr wr w.heap.size 169 .u32 (n + 1) R ∧ Shf A s k R ∧ Below w.heap.size w wr)
    (fun i _ => n - (intOf i).toNat)
  case atStart => exact ⟨0, _, by omega, rfl, hr, Shf.zero' A s, hbl⟩
  case round =>
    clear hr hbl hsz
    obtain ⟨k, R, hk, rfl, hr, hp, hbl⟩ := hrel
    by_cases hlt : k < n
    · have q1 := wd_nonneg A k
      have q2 := wd_le A k
      have hc1 := ha.below hbl lb k hlt
      have hc2 := hr.cell (show k < n + 1 by omega)
      have hf2 := hr.free k
      have hst := hp.step hs
      obtain ⟨p1, p2, p3, p4, p5, p6⟩ := shf_parts s hs (wd A k) ⟨q1, q2⟩
      have hd := hp.dig k
      have ht := hp.top
      have hor : bits .or .u32 (R k) (wd A k * 2 ^ s % 4294967296) = wd A k * 2 ^ s % 4294967296 + R k := or_u32_right s _ _ (by omega) p1 (by omega) hd.1 ht (by omega)
      have HST := Lib.hid hst; clear hst
      have HP6 := Lib.hid p6; clear p6
      clear p1 p3 ht
      have hc3 := hr.cell (show k + 1 < n + 1 by omega)
      have hf3 := hr.free (k + 1)
      go_wp2_with fail
      go_roundw
      case rel => exact ⟨k + 1, _, by omega, by go_num, (hr.set k _).set (k + 1) _, HST.out.1, (hbl.setCell (Nat.le_refl _) _).setCell (Nat.le_refl _) _⟩
      case measure => simp [intOf]; omega
    · obtain rfl : k = n := by omega
      have HR := Lib.hid (hr.congr (hp.done HA.out))
      clear hr hp
      go_wp2_with fail
      go_ret
      exact ⟨rfl, HR.out, hbl⟩

theorem bytesL_four (k n : Nat) (x : Int) (hx : x = ((n % 4294967296 : Nat) : Int)) : bytesL (k + 4) n = bytesL k (n / 4294967296) ++ [byw (x / 16777216), byw (x / 65536), byw (x / 256), byw x] := by
  rw [bytesL_succ, bytesL_succ, bytesL_succ, bytesL_succ]
  simp only [List.append_assoc, List.cons_append, List.nil_append]
  rw [show n / 256 / 256 / 256 / 256 = n / 4294967296 from by omega]
  congr 1
  have e : ∀ (a : Nat) (z : Int), (a : Int) % 256 = z % 256 → UInt8.ofNat a = byw z := by
    intro a z h
    apply UInt8.toNat_inj.1
    have := byw_cell z
    rw [UInt8.toNat_ofNat']
    omega
  rw [e (n / 256 / 256 / 256) (x / 16777216) (by omega), e (n / 256 / 256) (x / 65536) (by omega), e (n / 256) (x / 256) (by omega), e n x (by omega)]
/-- bytes that a call owns, beyond the blocks below B -/
theorem owns_slice {w : World} {B n : Nat} {v : Value} {l : List UInt8} (h : w.ownsRow B 5 1 v n (byteCells l)) :
    ∃ av cv, v = .slice av n cv ∧ (av = none → n = 0 ∧ cv = 0) ∧ n ≤ cv := by
  rcases h.2 with ⟨h1, h2⟩ | ⟨g, cap, cur, h0, _, h1, h3, h4, h2, h5⟩
  · subst h2; exact ⟨none, 0, by simpa using h1, fun _ => ⟨rfl, rfl⟩, by omega⟩
  · exact ⟨_, cap, h0, (by intro e; cases e), h3⟩

theorem cell_alloc_old {w : World} {a : Addr} {v : Value} {o : Obj} (h : w.cell? a = some v) : (w.alloc o).cell? a = some v := by
  rw [← h]
  unfold World.cell?
  rw [Below.heap_alloc _ _ _ (World.block_lt_of_cell? w a h)]
theorem tl_lt (A n : Nat) (hA : A < 4294967296 ^ n) : A < 4294967296 ^ tl (wd A) n := by
  have h1 := tl_sum (wd A) n
  rw [ds_wd, ds_wd, Nat.pow_zero, Nat.div_one, Nat.mod_eq_of_lt hA] at h1
  have h2 := Nat.mod_lt A (Nat.pow_pos (n := tl (wd A) n) (by omega : 0 < 4294967296))
  omega
theorem byw_wrap (x : Int) : ((byw x).toNat : Int) = IntKind.u8.wrap x := by rw [byw_cell, IntKind.wrap_u8]
theorem w256 (n : Nat) : 4294967296 ^ n = 256 ^ (4 * n) := by rw [Nat.pow_mul]
set_option maxHeartbeats 2000000 in
theorem number_any (b n c A : Nat) (w : World) (hn : n ≤ c) (hc : c ≤ 1000) (ha : Wds w b n (wd A)) (lb : b < w.heap.size) (hA : A < 4294967296 ^ n) :
    Calls Tryz.prog 100 #[.slice (some ⟨b, 0, none⟩) n c] w fun e w' => e = .returned (.string (enc A)) ∧ Below w.heap.size w w' := by
  obtain ⟨i, hi, hz0, hz1, hz2⟩ := info_parts info_u8
  have htl := tl_le (wd A) n
  have hAt := tl_lt A n hA
  have htr := trim_any b n c (wd A) w hn hc ha
  obtain ⟨t, ht⟩ : ∃ t, tl (wd A) n = t := ⟨_, rfl⟩
  rw [ht] at htl hAt htr
  clear ht hA
  have HAT := Lib.hid hAt; clear hAt
  have ha := ha.take htl
  go_enter Tryz.func100, Tryz.ntmps100
  go_wp2_with (go_at_call 119; refine htr.mono ?_; rintro e w' ⟨rfl, rfl⟩)
  clear htr
  have i0 : ((t : Int) - 1) ≥ -1 := by omega
  go_loopw [3, 4] (fun v x wr => ∃ (m : Nat) (y : Int), m ≤ t ∧ x = .int .i64 y ∧ Hid (y = (m : Int) - 1) ∧ Hid (wr.ownsRow w.heap.size 5 1 v (4 * (t - m)) (byteCells (bytesL (4 * (t - m)) (A / 4294967296 ^ m)))) ∧ Below w.heap.size w wr)
    (fun _ x _ => (intOf x + 1).toNat)
  case atStart => exact ⟨t, _, by omega, rfl, rfl, by show World.ownsRow _ _ _ _ _ _ _; rw [Nat.sub_self]; exact World.ownsRow_nil _ _ _ _, Below.refl _ _⟩
  case round =>
    obtain ⟨m, y, hm, rfl, hy, hO, hb⟩ := hrel
    rcases m with _ | m
    · obtain rfl : y = -1 := by have := hy.out; simpa using this
      clear hy
      rw [Nat.sub_zero, Nat.pow_zero, Nat.div_one] at hO
      obtain ⟨L, hL⟩ : ∃ L, bytesL (4 * t) A = L := ⟨_, rfl⟩
      have hLl : L.length = 4 * t := by rw [← hL, length_bytesL]
      have hLv : nvL L = A := by rw [← hL, nvL_bytesL, ← w256, Nat.mod_eq_of_lt HAT.out]
      rw [hL] at hO
      have HLL := Lib.hid hLl
      have HLV := Lib.hid hLv
      clear hL hLl hLv
      rcases hO.out.2 with ⟨rfl, h0⟩ | ⟨g, cap, cur, rfl, hBg, _, hnc, hcm, _, _⟩
      · have t0 : t = 0 := by omega
        have hfin : enc A = ⟨#[]⟩ := by
          have := HAT.out
          rw [t0] at this
          have : A = 0 := by simpa using this
          rw [this]; rfl
        have HFIN := Lib.hid hfin
        clear h0 hO hfin
        go_wp2_with fail
        go_loop [3] (fun v => v = .slice none 0 0) (fun v => slen v)
        case atStart => rfl
        case round =>
          obtain rfl := hrel
          have hcv : (convert 115 22 (.slice none 0 0)).run Tryz.prog wr = .ok (.string ⟨#[]⟩) wr := Lib.run_convert_nil_bytes wr _ _ _ 0 Tryz.underlying115 Tryz.underlying5 Tryz.underlying22
          go_wp2_with fail
          go_ret
          exact ⟨ret_str (by rw [HFIN.out]), hb⟩
      · have hBA : Hid (BytesAt wr g 0 L) := by
          intro q hq
          rw [Nat.zero_add, hO.out.cellAt q (by rw [HLL.out] at hq; omega)]
          simp [byteCells, hq]
        clear hO
        go_wp2_with fail
        go_loop [3] (fun v => ∃ (r : List UInt8) (o c : Nat), r.length ≤ c ∧ c ≤ maxLen ∧ Hid (BytesAt wr g o r) ∧ Hid (nvL r = A) ∧ v = .slice (some ⟨g, o, none⟩) r.length c) (fun v => slen v)
        case atStart => exact ⟨L, 0, cap, by rw [HLL.out]; omega, hcm, hBA, HLV, by rw [HLL.out]⟩
        case round =>
          obtain ⟨r, o, c, hrc, hcc, hbr, hv, rfl⟩ := hrel
          clear hBA
          unfold maxLen at hcc
          have hcv := conv_back wr g o c r hbr.out
          cases r with
          | nil =>
            simp only [List.length_nil] at hcv
            go_wp2_with fail
            go_ret
            exact ⟨ret_str (by rw [← hv.out]; rfl), hb⟩
          | cons x r =>
            have hc0 : wr.cell? ⟨g, o, none⟩ = some (.int .u8 (x.toNat : Int)) := hbr.out 0 (by simp)
            simp only [List.length_cons] at hcv hrc
            by_cases hx : x = 0
            · subst hx
              have hc0' : wr.cell? ⟨g, o, none⟩ = some (.int .u8 0) := hc0
              clear hc0 hcv
              have hb1 : Hid (BytesAt wr g (o + 1) r) := hbr.out.tail
              have hv1 : Hid (nvL r = A) := by rw [← hv.out, nvL_cons]; simp [Hid]
              by_cases hc1 : c = 1
              · subst hc1
                obtain rfl : r = [] := by cases r with | nil => rfl | cons y r => simp at hrc
                go_wp2_with fail
                go_round
                case rel => exact ⟨[], o, 0, by simp, by unfold maxLen; omega, fun j hj => by simp at hj, hv1, rfl⟩
                case measure => simp [slen]
              · go_wp2_with fail
                go_round
                case rel => exact ⟨r, o + 1, c - 1, by omega, by unfold maxLen; omega, hb1, hv1, rfl⟩
                case measure => simp [slen]
            · have hx' : ((x.toNat : Int) == 0) = false := by
                rw [beq_eq_false_iff_ne]; intro e
                exact hx (UInt8.toNat_inj.1 (by simpa using e))
              go_wp2_with fail
              go_ret
              refine ⟨ret_str ?_, hb⟩
              rw [← hv.out]; unfold enc; rw [encL_nvL _ (by simp [hx])]
    · obtain rfl : y = m := by have := hy.out; omega
      clear hy
      have hc0 := ha.below hb lb m (by omega)
      have hc1 : wr.drew.cell? ⟨b, m, none⟩ = some (.int .u32 (wd A m)) := hc0
      have hmt : m < t := by omega
      obtain ⟨av, cv, rfl, hnone, hcap⟩ := owns_slice hO.out
      have hml : 4 * (t - (m + 1)) + 4 ≤ maxLen := by unfold maxLen; omega
      have hml2 : (4 * (t - (m + 1)) + 4) * 1 ≤ 140737488355328 := by omega
      have hml3 : Hid (∀ o : Obj, w.heap.size ≤ (wr.alloc o).drew.heap.size) := fun o => by have := hb.size; show _ ≤ (wr.alloc o).heap.size; simp; omega
      go_wp2_with fail
      have hne : some (⟨b, m, none⟩ : Addr).block ≠ (Value.slice av (4 * (t - (m + 1))) cv).ownBlock := fun e => by have := (hO.out.lt b e.symm).1; omega
      have hk1 : Hid (∀ o : Obj, (wr.alloc o).drew.cell? ⟨b, m, none⟩ = some (.int .u32 (wd A m))) := fun o => cell_alloc_old hc0
      have HNE := Lib.hid hne
      clear hne
      go_region_held_law (fun w' => w'.cell? ⟨b, m, none⟩ = some (.int .u32 (wd A m))) (first | assumption | go_keep) (((with_reducible refine step_append_lies _ ?b1 (.tmp 14) (.tmp 38) 115 ?b2 w.heap.size 5 i (.int .u8 0) 1 1 Tryz.underlying115 hi hz0 hz1 hz2 ?b3 ?b4 (.slice av (4 * (t - (m + 1))) cv) (4 * (t - (m + 1))) (byteCells (bytesL (4 * (t - (m + 1))) (A / 4294967296 ^ (m + 1)))) ?b5 ?b6 ⟨wr.heap.size, 0, none⟩ 4 4 (byteCells [byw (wd A m / 16777216), byw (wd A m / 65536), byw (wd A m / 256), byw (wd A m)]) ?b7 ?b8 ?b9 (Go.Lib.byteCells_one _) ?c0 ?c1 ?c2 ?c3 _ rfl ?c4); (case b1 => rfl); (case b2 => rfl); (case b3 => rfl); (case b4 => decide); (case b5 => simp [Act.eval]); (case b6 => exact hO.out.alloc _); (case b7 => simp [Act.eval]); (case b8 => rfl); (case b9 => exact cells_four (new_cell0 _ _ _ _) (new_cell0 _ _ _ _) (new_cell0 _ _ _ _) (new_cell0 _ _ _ _) (byw_wrap _) (byw_wrap _) (byw_wrap _) (byw_wrap _)); (case c0 => decide); (case c1 => exact hml); (case c2 => exact hml2); (case c3 => exact hml3.out _); intro g4 c4 w4 hO4 hG4 _ _; have hk4 := hG4.cell (hk1.out _) HNE.out))
      go_wp2_with fail
      have e4 : 4 * (t - (m + 1)) + 4 = 4 * (t - m) := by omega
      go_roundw
      case rel =>
        refine ⟨m, _, by omega, rfl, ?_, ?_, ?_⟩
        · show _ = _; rfl
        · show World.ownsRow _ _ _ _ _ _ _
          rw [← e4, bytesL_four _ (A / 4294967296 ^ m) (wd A m) rfl, Nat.div_div_eq_div_mul, ← Nat.pow_succ, byteCells_append]
          exact hO4
        · exact (hb.drew.alloc hb.size _).grown hG4 (hb.drew.alloc hb.size _).size (fun q e => (hO.out.lt q e).1)
      case measure => simp [intOf]

end Go.Proofs.YtdlbnioidfhhcaaGreat

/- Contracts of the package modular: limbs. -/
namespace Go.Proofs.YtdlbnioidfhhcaaGreat
open Go.RowKit Num
set_option maxRecDepth 20000

namespace Num
theorem w_eq (q : Nat) : 4294967296 ^ q = 256 ^ (4 * q) := by rw [Nat.pow_mul]
theorem cut_div (a k m : Nat) (h : k ≤ m) : a / 256 ^ k * 256 ^ k / 256 ^ m = a / 256 ^ m := by
  obtain ⟨d, rfl⟩ : ∃ d, m = k + d := ⟨m - k, by omega⟩
  rw [Nat.pow_add, ← Nat.div_div_eq_div_mul, ← Nat.div_div_eq_div_mul, Nat.mul_div_cancel _ (Nat.pow_pos (by omega))]
/-- the part of a number from the k-th byte on -/
def cutb (a k : Nat) : Nat := a / 256 ^ k * 256 ^ k
theorem cutb_zero (a : Nat) : cutb a 0 = a := by simp [cutb]
theorem cutb_all (a k : Nat) (h : a < 256 ^ k) : cutb a k = 0 := by simp [cutb, Nat.div_eq_of_lt h]
theorem wd_zero (i : Nat) : wd 0 i = 0 := by simp [wd]
theorem cutb_low (a k j : Nat) (h : 4 * j + 4 ≤ k) : wd (cutb a k) j = 0 := by
  unfold wd cutb
  obtain ⟨d, rfl⟩ : ∃ d, k = 4 * (j + 1) + d := ⟨k - 4 * (j + 1), by omega⟩
  have e : 256 ^ (4 * (j + 1) + d) = 4294967296 ^ j * (4294967296 * 256 ^ d) := by
    rw [Nat.pow_add, ← w_eq, Nat.pow_succ, Nat.mul_assoc]
  rw [e, ← Nat.mul_assoc, Nat.mul_comm _ (4294967296 ^ j), Nat.mul_assoc, Nat.mul_div_cancel_left _ (Nat.pow_pos (by omega)), Nat.mul_left_comm, Nat.mul_mod_right]
  rfl
theorem cutb_high (a k j : Nat) (h : k ≤ 4 * j) : wd (cutb a k) j = wd a j := by
  unfold wd cutb
  rw [w_eq, cut_div a k _ h]
theorem cutb_at (a k q r : Nat) (hk : k = 4 * q + r) : cutb a k / 4294967296 ^ q = a / 256 ^ k * 256 ^ r := by
  unfold cutb
  conv => lhs; rw [hk]
  rw [Nat.pow_add, ← w_eq, Nat.mul_comm (4294967296 ^ q), ← Nat.mul_assoc, Nat.mul_div_cancel _ (Nat.pow_pos (by omega)), ← Nat.mul_comm (4294967296 ^ q), w_eq, ← Nat.pow_add, ← hk]
/-- one byte more -/
theorem limb_step (a k : Nat) :
    (∀ j, j ≠ k / 4 → wd (cutb a k) j = wd (cutb a (k + 1)) j) ∧ wd (cutb a k) (k / 4) = wd (cutb a (k + 1)) (k / 4) + dg a k * 2 ^ (8 * (k % 4)) ∧ wd (cutb a (k + 1)) (k / 4) % 2 ^ (8 * (k % 4) + 8) = 0 := by
  refine ⟨fun j hj => ?_, ?_⟩
  · by_cases h : j < k / 4
    · rw [cutb_low a k j (by omega), cutb_low a (k + 1) j (by omega)]
    · rw [cutb_high a k j (by omega), cutb_high a (k + 1) j (by omega)]
  · have e1 := cutb_at a k (k / 4) (k % 4) (by omega)
    have e2 := cutb_at a (k + 1) (k / 4) (k % 4 + 1) (by omega)
    have e3 : a / 256 ^ (k + 1) = a / 256 ^ k / 256 := by rw [Nat.pow_succ, ← Nat.div_div_eq_div_mul]
    unfold wd dg
    rw [e1, e2, e3]
    generalize a / 256 ^ k = X
    rcases (by omega : k % 4 = 0 ∨ k % 4 = 1 ∨ k % 4 = 2 ∨ k % 4 = 3) with h | h | h | h <;> rw [h] <;> simp <;> omega
end Num
theorem limb_or (k : Nat) (x d : Int) (hx : 0 ≤ x ∧ x < 4294967296) (h : x % 2 ^ (8 * (k % 4) + 8) = 0) (hd : 0 ≤ d ∧ d ≤ 255) :
    0 ≤ d * 2 ^ (8 * (k % 4)) ∧ d * 2 ^ (8 * (k % 4)) < 4294967296 ∧ bits .or .u32 x (d * 2 ^ (8 * (k % 4))) = x + d * 2 ^ (8 * (k % 4)) := by
  have e : 0 ≤ d * 2 ^ (8 * (k % 4)) ∧ d * 2 ^ (8 * (k % 4)) < 2 ^ (8 * (k % 4) + 8) ∧ (2 : Int) ^ (8 * (k % 4) + 8) ≤ 4294967296 := by
    rcases (by omega : k % 4 = 0 ∨ k % 4 = 1 ∨ k % 4 = 2 ∨ k % 4 = 3) with h | h | h | h <;> rw [h] <;> simp <;> omega
  exact ⟨e.1, by omega, or_u32 (8 * (k % 4) + 8) _ _ hx.1 h (by omega) e.1 e.2.1 (by omega)⟩
theorem below_four {a n : Nat} (h : a < 256 ^ n) : a < 4294967296 ^ ((n + 3) / 4) := by
  rw [w_eq]
  exact Nat.lt_of_lt_of_le h (Nat.pow_le_pow_right (by omega) (by omega))
set_option maxHeartbeats 1000000 in
theorem limbs_any (s : ByteArray) (a : Nat) (w : World) (hs : IsN s a) :
    Calls Tryz.prog 103 #[.string s] w fun e w' => e = .returned (.slice (some ⟨w.heap.size, 0, none⟩) ((s.size + 3) / 4) ((s.size + 3) / 4)) ∧ Arr w' w.heap.size 169 .u32 ((s.size + 3) / 4) (wd a) ∧ Below w.heap.size w w' ∧ a < 4294967296 ^ ((s.size + 3) / 4) := by
  have hz := hs.small
  have hlt0 : a < 256 ^ s.size := by rw [hs.size]; exact lt_blen a
  have HS := Lib.hid hs; clear hs
  have HLT := Lib.hid hlt0; clear hlt0
  obtain ⟨i0, hi, hz0, hz1, hz2⟩ := info_parts info_w32
  go_enter Tryz.func103, Tryz.ntmps103
  go_wp2_with (at_make; refine wpList_make_arr _ rfl _ _ _ rfl 169 i0 .u32 4 Tryz.underlying157 hi hz0 hz1 hz2 _ _ _ _ ((s.size + 3) / 4) rfl rfl ?_ ?_ ?_ ?_ ?_ <;> first | (intro w1 hr hbl hsz) | omega | (unfold maxLen; omega))
  obtain ⟨N, hN⟩ : ∃ N, (s.size + 3) / 4 = N := ⟨_, rfl⟩
  rw [hN] at hr ⊢
  go_loopw [13] (fun i wr => ∃ (j : Nat) (R : Nat → Int), j ≤ s.size ∧ i = .int .i64 j ∧ Arr wr w.heap.size 169 .u32 N R ∧ Hid (∀ q, q < N → R q = wd (cutb a (s.size - j)) q) ∧ Below w.heap.size w wr)
    (fun i _ => s.size - (intOf i).toNat)
  case atStart => exact ⟨0, _, by omega, rfl, hr, by intro q hq; rw [Nat.sub_zero, cutb_all a _ HLT.out, wd_zero], hbl⟩
  case round =>
    clear hr hbl hsz
    obtain ⟨j, R, hj, rfl, hr, hR, hbl⟩ := hrel
    by_cases hlt : j < s.size
    · obtain ⟨k, hk⟩ : ∃ k, s.size = j + 1 + k := ⟨s.size - j - 1, by omega⟩
      have hkN : k / 4 < N := by omega
      have hck := hr.cell hkN
      have hfk := hr.free (k / 4)
      have x1 : (s.size : Int) - 1 - j = k := by omega
      have hdig : ((s[j]'hlt).toNat : Int) = dg a k := by
        have h := nv_digit s k (by omega)
        have e : s.size - 1 - k = j := by omega
        simp only [e] at h
        unfold dg
        rw [← HS.out.nv, h]
      have hst := limb_step a k
      rw [hR.out (k / 4) hkN, show s.size - j = k + 1 from by omega] at hck
      obtain ⟨o1, o2, o3⟩ := limb_or k (wd (cutb a (k + 1)) (k / 4)) (dg a k) ⟨wd_nonneg _ _, wd_lt _ _⟩ hst.2.2 ⟨dg_nonneg a k, dg_le a k⟩
      have HST := Lib.hid hst; clear hst
      have HK := Lib.hid hk; clear hk
      go_wp2_with fail
      have n1 : ((k : Int) / 4).toNat = k / 4 := by omega
      have n2 : (k : Int) / 4 < N := by omega
      have n3 : (0 : Int) ≤ (k : Int) / 4 := by omega
      have n4 : (8 * ((k : Int) % 4)).toNat = 8 * (k % 4) := by omega
      have n5 : (0 : Int) ≤ 8 * ((k : Int) % 4) := by omega
      have n6 : IntKind.i64.wrap (8 * ((k : Int) % 4)) = 8 * ((k : Int) % 4) := IntWalk.i64_in _ (by omega)
      have n7 : IntKind.u32.wrap (dg a k * 2 ^ (8 * (k % 4))) = dg a k * 2 ^ (8 * (k % 4)) := wraps_u32 _ o1 o2
      have n8 : (8 * ((k : Int) % 4)) < 32 := by omega
      have n9 : (j : Int) < (s.size : Int) := by omega
      have n10 : IntKind.u32.wrap (dg a k) = dg a k := wraps_u32 _ (dg_nonneg a k) (by have := dg_lt a k; omega)
      have n11 : ((k : Int).tdiv 4) = (k : Int) / 4 := Int.tdiv_eq_ediv_of_nonneg (by omega)
      have n12 : ((k : Int).tmod 4) = (k : Int) % 4 := Int.tmod_eq_emod_of_nonneg (by omega)
      have n13 : IntKind.i64.wrap ((k : Int) / 4) = (k : Int) / 4 := IntWalk.i64_in _ (by omega)
      have n14 : IntKind.i64.wrap ((k : Int) % 4) = (k : Int) % 4 := IntWalk.i64_in _ (by omega)
      refine wp_region_still_tail 15 (by kernel_rfl) (by kernel_rfl) ?_
      simp only [List.take_succ_cons, List.take_zero, List.drop_succ_cons, List.drop_zero]
      iterate 15 still_step
      refine wpStill_nil ?_
      change wpList _ _ _ _ _ wr.drew
      refine wpList_store_int rfl rfl _ _ _ rfl _ _ _ _ _ rfl rfl hck hfk i0 hi hz1 ?_
      refine wpList_nil ?_
      refine ‹∀ (a : Act) (w : World), Code.wp Tryz.prog _ _ a w → _› _ _ ?_
      clear n1 n2 n3 n4 n5 n6 n7 n8 n9 n10 n11 n12 n13 n14
      have ha3 := hr.drew.set (k / 4) (wd (cutb a (k + 1)) (k / 4) + dg a k * 2 ^ (8 * (k % 4)))
      have hb3 := hbl.drew.setCell (p := ⟨w.heap.size, k / 4, none⟩) (Nat.le_refl _) (.int .u32 (wd (cutb a (k + 1)) (k / 4) + dg a k * 2 ^ (8 * (k % 4))))
      generalize wr.drew.setCell _ _ = w3 at ha3 hb3 ⊢
      have hR3 : Hid (∀ q, q < N → upd R (k / 4) (wd (cutb a (k + 1)) (k / 4) + dg a k * 2 ^ (8 * (k % 4))) q = wd (cutb a (s.size - (j + 1))) q) := by
        intro q hq
        rw [show s.size - (j + 1) = k from by omega]
        by_cases e : q = k / 4
        · rw [e, upd_same, HST.out.2.1]
        · rw [upd_other _ _ e, hR.out q hq, HST.out.1 q e, show s.size - j = k + 1 from by omega]
      clear hck hfk o1 o2 o3 hdig hr hbl hR x1
      go_wp2_with fail
      go_roundw
      case rel => exact ⟨j + 1, _, by omega, by go_num, ha3, hR3, hb3⟩
      case measure => simp [intOf]; omega
    · obtain rfl : j = s.size := by omega
      have HF := Lib.hid (hr.congr (g := wd a) (fun q hq => by rw [hR.out q hq, Nat.sub_self, cutb_zero]))
      have HL := Lib.hid (below_four HLT.out)
      rw [hN] at HL
      clear hr hR
      go_wp2_with fail
      go_ret
      subst hN
      exact ⟨rfl, HF.out, hbl, HL.out⟩
end Go.Proofs.YtdlbnioidfhhcaaGreat
