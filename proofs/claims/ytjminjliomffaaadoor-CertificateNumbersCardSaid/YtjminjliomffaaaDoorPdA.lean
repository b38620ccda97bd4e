import Derived.Test.YtjminjliomffaaaDoorMer
/- Plain facts: what the kernel is to reckon for "a number below 2^32 that passes the twelve strong tests is prime", and what follows of it. No program in sight. -/
namespace Go.Proofs.YtjminjliomffaaaDoor
namespace Num
def allB : Nat → (Nat → Bool) → Bool
  | 0, _ => true
  | k + 1, P => P k && allB k P
theorem allB_spec {P : Nat → Bool} : ∀ {n : Nat}, allB n P = true → ∀ i, i < n → P i = true
  | 0, _, i, h => by omega
  | n + 1, h, i, hi => by
    rw [allB, Bool.and_eq_true] at h
    rcases Nat.lt_or_ge i n with h' | h'
    · exact allB_spec h.2 i h'
    · obtain rfl : i = n := by omega
      exact h.1
/-- a number is reckoned before it is used -/
def fcB (n : Nat) (f : Nat → Bool) : Bool := match n with | 0 => f 0 | k + 1 => f (k + 1)
theorem fcB_eq (n : Nat) (f : Nat → Bool) : fcB n f = f n := by cases n <;> rfl
def fcN (n : Nat) (f : Nat → Nat) : Nat := match n with | 0 => f 0 | k + 1 => f (k + 1)
/-- a power modulo n, by digits of six bits -/
def pwR : Nat → Nat → Nat → Nat → Nat
  | 0, _, _, _ => 1
  | f + 1, b, e, n => Nat.mod (Nat.mul (Nat.pow (pwR f b (Nat.div e 64) n) 64) (Nat.pow b (Nat.mod e 64))) n
theorem pwR_mod : ∀ (f b e n : Nat), e < 64 ^ f → pwR f b e n % n = b ^ e % n
  | 0, b, e, n, h => by
    obtain rfl : e = 0 := by simp at h; omega
    simp [pwR]
  | f + 1, b, e, n, h => by
    have he : e / 64 < 64 ^ f := by rw [Nat.pow_succ] at h; omega
    show pwR f b (e / 64) n ^ 64 * b ^ (e % 64) % n % n = _
    rw [Nat.mod_mod, Nat.mul_mod, Nat.pow_mod, pwR_mod f b (e / 64) n he, ← Nat.pow_mod, ← Nat.mul_mod, ← Nat.pow_mul, ← Nat.pow_add]
    congr 2; omega
theorem pwR_eq {f b e n : Nat} (h : e < 64 ^ (f + 1)) : pwR (f + 1) b e n = b ^ e % n := by
  rw [← pwR_mod (f + 1) b e n h]
  show _ % n = _ % n % n
  rw [Nat.mod_mod]
/-- the strong test, reckoned -/
def sgC (n a : Nat) : Bool := Nat.beq (pwR 6 a (odp (n - 1)) n) 1 || (List.range (tz (n - 1))).any (fun i => Nat.beq (pwR 6 a (odp (n - 1) * 2 ^ i) n) (n - 1))
theorem beq_eq {a b : Nat} : Nat.beq a b = (a == b) := by
  cases h : Nat.beq a b
  · have := Nat.ne_of_beq_eq_false h
    exact (beq_eq_false_iff_ne.2 this).symm
  · have := Nat.eq_of_beq_eq_true h
    exact (beq_iff_eq.2 this).symm
theorem sgC_eq {n a : Nat} (h2 : 2 ≤ n) (h : n < 64 ^ 6) : sgC n a = strongB n a := by
  have ho := (tz_spec (n - 1) (by omega)).1
  have hle : ∀ i, i ≤ tz (n - 1) → odp (n - 1) * 2 ^ i < 64 ^ 6 := fun i hi => by
    have : odp (n - 1) * 2 ^ i ≤ odp (n - 1) * 2 ^ tz (n - 1) := Nat.mul_le_mul_left _ (Nat.pow_le_pow_right (by omega) hi)
    omega
  unfold sgC strongB
  rw [pwR_eq (by have := hle 0 (by omega); simpa using this), beq_eq]
  congr 1
  rw [Bool.eq_iff_iff, List.any_eq_true, List.any_eq_true]
  constructor
  · rintro ⟨i, hi, h1⟩
    refine ⟨i, hi, ?_⟩
    rw [pwR_eq (hle i (Nat.le_of_lt (List.mem_range.1 hi))), beq_eq] at h1
    exact h1
  · rintro ⟨i, hi, h1⟩
    refine ⟨i, hi, ?_⟩
    rw [pwR_eq (hle i (Nat.le_of_lt (List.mem_range.1 hi))), beq_eq]
    exact h1
/-- a number is rejected -/
def rejF (n : Nat) : Bool := !Nat.beq (Nat.gcd n 7420738134810) 1 || (!Nat.beq (pwR 6 2 (n - 1) n) 1 || ![2, 3, 5, 7, 11].all (sgC n))
def rej (n : Nat) : Bool := fcB n rejF
/-- passes all tests -/
def Psp (n : Nat) : Prop := 2 ≤ n ∧ n < 4294967296 ∧ (∀ b ∈ bases, ¬ b ∣ n) ∧ ∀ b ∈ bases, strongB n b = true
theorem strong_fermat {n a : Nat} (h2 : 2 ≤ n) (h : strongB n a = true) : a ^ (n - 1) % n = 1 := by
  have ho := (tz_spec (n - 1) (by omega)).1
  unfold strongB at h
  rw [Bool.or_eq_true, List.any_eq_true, beq_iff_eq] at h
  rcases h with h | ⟨i, hi, h⟩
  · rw [ho]; exact pow_mod1 h2 h _
  · have hi' := List.mem_range.1 hi
    unfold hit at h
    rw [beq_iff_eq] at h
    have h3 := sq_next n a (odp (n - 1)) i
    rw [h] at h3
    have h4 : (n - 1) * (n - 1) % n = 1 := by
      have e : (n - 1) * (n - 1) = 1 + n * (n - 2) := by
        obtain ⟨m, rfl⟩ : ∃ m, n = m + 2 := ⟨n - 2, by omega⟩
        simp only [Nat.add_sub_cancel, show m + 2 - 1 = m + 1 by omega, Nat.mul_add, Nat.add_mul]; omega
      rw [e, Nat.add_mul_mod_self_left, Nat.mod_eq_of_lt (by omega)]
    rw [h4] at h3
    have h5 := pow_mod1 h2 h3.symm (2 ^ (tz (n - 1) - (i + 1)))
    rw [Nat.mul_assoc, ← Nat.pow_add, show i + 1 + (tz (n - 1) - (i + 1)) = tz (n - 1) by omega, ← ho] at h5
    exact h5
theorem bases_prime : ∀ b ∈ bases, IsP b := by
  intro b hb
  simp only [bases, List.mem_cons, List.not_mem_nil, or_false] at hb
  rcases hb with h | h | h | h | h | h | h | h | h | h | h | h <;> subst h <;> exact isP_tri (f := 7) (by decide) (by decide)
section
variable {n : Nat}
theorem Psp.cop (h : Psp n) : ∀ b ∈ bases, Nat.Coprime n b := fun b hb => by
  have := (bases_prime b hb).gcd (h.2.2.1 b hb)
  rwa [Nat.gcd_comm] at this
theorem Psp.fermat (h : Psp n) {b : Nat} (hb : b ∈ bases) : b ^ (n - 1) % n = 1 := strong_fermat h.1 (h.2.2.2 b hb)
theorem Psp.cop37 (h : Psp n) : Nat.gcd n 7420738134810 = 1 := by
  have g := h.cop
  have e : 7420738134810 = 2 * (3 * (5 * (7 * (11 * (13 * (17 * (19 * (23 * (29 * (31 * 37)))))))))) := by decide
  rw [e]
  exact Nat.Coprime.mul_right (g 2 (by decide)) (Nat.Coprime.mul_right (g 3 (by decide)) (Nat.Coprime.mul_right (g 5 (by decide)) (Nat.Coprime.mul_right (g 7 (by decide)) (Nat.Coprime.mul_right (g 11 (by decide)) (Nat.Coprime.mul_right (g 13 (by decide)) (Nat.Coprime.mul_right (g 17 (by decide)) (Nat.Coprime.mul_right (g 19 (by decide)) (Nat.Coprime.mul_right (g 23 (by decide)) (Nat.Coprime.mul_right (g 29 (by decide)) (Nat.Coprime.mul_right (g 31 (by decide)) (g 37 (by decide))))))))))))
theorem Psp.rej (h : Psp n) (hr : rej n = true) : False := by
  unfold Num.rej at hr
  rw [fcB_eq] at hr
  unfold rejF at hr
  rw [Bool.or_eq_true, Bool.or_eq_true] at hr
  rcases hr with hr | hr | hr
  · rw [h.cop37] at hr
    cases hr
  · have h1 := h.2.1
    rw [pwR_eq (by omega), h.fermat (by decide)] at hr
    cases hr
  · have h1 := h.2.1
    rw [Bool.not_eq_true', List.all_eq_false] at hr
    obtain ⟨b, hb, h3⟩ := hr
    have hbb : b ∈ bases := by
      simp only [List.mem_cons, List.not_mem_nil, or_false] at hb
      rcases hb with h | h | h | h | h <;> subst h <;> decide
    rw [sgC_eq h.1 (by omega), h.2.2.2 b hbb] at h3
    exact h3 rfl
/-- Fermat's test modulo a prime factor, and what is left of it for the other factor -/
theorem Psp.left (h : Psp n) {q c : Nat} (hq : IsP q) (e : n = q * c) (hc : 1 ≤ c) {b : Nat} (hb : b ∈ bases) : b ^ (c - 1) % q = 1 := by
  have h2 := hq.1
  have hqn : q ∣ n := ⟨c, e⟩
  have hqb : ¬ q ∣ b := fun hd => by
    rcases (bases_prime b hb).2 q hd with h' | h'
    · omega
    · exact h.2.2.1 b hb (h' ▸ hqn)
  have f1 := hq.fermat1 hqb
  have f2 : b ^ (n - 1) % q = 1 := by rw [← Nat.mod_mod_of_dvd _ hqn, h.fermat hb, Nat.mod_eq_of_lt (by omega)]
  have e2 : n - 1 = (q - 1) * c + (c - 1) := by rw [e, Nat.sub_mul]; have := Nat.mul_le_mul_right c h2; omega
  rw [e2, Nat.pow_add, Nat.mul_mod, pow_mod1 h2 f1, Nat.one_mul, Nat.mod_mod] at f2
  exact f2
end
/-- the primes below 256 -/
def sm : List Nat := [2, 3, 5, 7, 11, 13, 17, 19, 23, 29, 31, 37, 41, 43, 47, 53, 59, 61, 67, 71, 73, 79, 83, 89, 97, 101, 103, 107, 109, 113, 127, 131, 137, 139, 149, 151, 157, 163, 167, 173, 179, 181, 191, 193, 197, 199, 211, 223, 227, 229, 233, 239, 241, 251]
def P251 : Nat := 64266330917908644872330635228106713310880186591609208114244758680898150367880703152525200743234420230
theorem P251_eq : P251 = lprod sm := by decide +kernel
/-- the primes from 41 to 1999 -/
def sp : List Nat := [41, 43, 47, 53, 59, 61, 67, 71, 73, 79, 83, 89, 97, 101, 103, 107, 109, 113, 127, 131, 137, 139, 149, 151, 157, 163, 167, 173, 179, 181, 191, 193, 197, 199, 211, 223, 227, 229, 233, 239, 241, 251, 257, 263, 269, 271, 277, 281, 283, 293, 307, 311, 313, 317, 331, 337, 347, 349, 353, 359, 367, 373, 379, 383, 389, 397, 401, 409, 419, 421, 431, 433, 439, 443, 449, 457, 461, 463, 467, 479, 487, 491, 499, 503, 509, 521, 523, 541, 547, 557, 563, 569, 571, 577, 587, 593, 599, 601, 607, 613, 617, 619, 631, 641, 643, 647, 653, 659, 661, 673, 677, 683, 691, 701, 709, 719, 727, 733, 739, 743, 751, 757, 761, 769, 773, 787, 797, 809, 811, 821, 823, 827, 829, 839, 853, 857, 859, 863, 877, 881, 883, 887, 907, 911, 919, 929, 937, 941, 947, 953, 967, 971, 977, 983, 991, 997, 1009, 1013, 1019, 1021, 1031, 1033, 1039, 1049, 1051, 1061, 1063, 1069, 1087, 1091, 1093, 1097, 1103, 1109, 1117, 1123, 1129, 1151, 1153, 1163, 1171, 1181, 1187, 1193, 1201, 1213, 1217, 1223, 1229, 1231, 1237, 1249, 1259, 1277, 1279, 1283, 1289, 1291, 1297, 1301, 1303, 1307, 1319, 1321, 1327, 1361, 1367, 1373, 1381, 1399, 1409, 1423, 1427, 1429, 1433, 1439, 1447, 1451, 1453, 1459, 1471, 1481, 1483, 1487, 1489, 1493, 1499, 1511, 1523, 1531, 1543, 1549, 1553, 1559, 1567, 1571, 1579, 1583, 1597, 1601, 1607, 1609, 1613, 1619, 1621, 1627, 1637, 1657, 1663, 1667, 1669, 1693, 1697, 1699, 1709, 1721, 1723, 1733, 1741, 1747, 1753, 1759, 1777, 1783, 1787, 1789, 1801, 1811, 1823, 1831, 1847, 1861, 1867, 1871, 1873, 1877, 1879, 1889, 1901, 1907, 1913, 1931, 1933, 1949, 1951, 1973, 1979, 1987, 1993, 1997, 1999]
theorem dvd_lprod {p : Nat} (hp : IsP p) : ∀ {l : List Nat}, p ∣ lprod l → ∃ x ∈ l, p ∣ x
  | [], h => by have h1 := Nat.le_of_dvd (by decide) h; have h2 := hp.1; simp [lprod] at h1; omega
  | a :: l, h => by
    rcases hp.dvd_mul (show p ∣ a * lprod l from h) with h' | h'
    · exact ⟨a, by simp, h'⟩
    · obtain ⟨x, hx, hd⟩ := dvd_lprod hp h'
      exact ⟨x, by simp [hx], hd⟩
/-- has a small factor -/
def sd2 (n : Nat) : Bool := [2, 3, 5, 7, 11, 13, 17, 19, 23, 29, 31, 37, 41, 43].any fun d => Nat.beq (Nat.mod n d) 0 && !Nat.beq n d
theorem not_sd2 {p : Nat} (hp : IsP p) : sd2 p = false := by
  unfold sd2
  rw [List.any_eq_false]
  intro d hd h
  rw [Bool.and_eq_true, beq_eq, beq_eq, beq_iff_eq, Bool.not_eq_true', beq_eq_false_iff_ne] at h
  rcases hp.2 d (Nat.dvd_of_mod_eq_zero h.1) with e | e
  · subst e; exact absurd hd (by decide)
  · exact h.2 e.symm
set_option maxRecDepth 100000 in
theorem sp_all : allB 1997 (fun i => sd2 (i + 2) || Nat.ble (i + 2) 40 || sp.elem (i + 2)) = true := by decide +kernel
theorem mem_sp {p : Nat} (hp : IsP p) (h1 : 41 ≤ p) (h2 : p < 1999) : p ∈ sp := by
  have h := allB_spec sp_all (p - 2) (by omega)
  rw [show p - 2 + 2 = p by omega, not_sd2 hp, Bool.false_or, Bool.or_eq_true] at h
  rcases h with h | h
  · have := Nat.le_of_ble_eq_true h; omega
  · exact List.elem_iff.1 h
set_option maxRecDepth 100000 in
theorem sm_all : allB 254 (fun i => sd2 (i + 2) || sm.elem (i + 2)) = true := by decide +kernel
theorem mem_sm {p : Nat} (hp : IsP p) (h2 : p < 256) : p ∈ sm := by
  have h1 := hp.1
  have h := allB_spec sm_all (p - 2) (by omega)
  rw [show p - 2 + 2 = p by omega, not_sd2 hp, Bool.false_or] at h
  exact List.elem_iff.1 h
/-- some base has a power other than 1 -/
def nr (q k : Nat) : Bool := bases.any fun b => !Nat.beq (pwR 3 b k q) 1
/-- the orders of the bases modulo q have q - 1 as their least common multiple -/
def chkR (q : Nat) : Bool := sm.all (fun r => !Nat.beq (Nat.mod (q - 1) r) 0 || nr q (Nat.div (q - 1) r)) && allB (Nat.div (q - 1) 257) (fun D => !Nat.beq (Nat.mod (q - 1) (D + 1)) 0 || nr q (D + 1))
theorem nr_no {q k : Nat} (hk : k < 65536) (h : ∀ b ∈ bases, b ^ k % q = 1) : nr q k = false := by
  unfold nr
  rw [List.any_eq_false]
  intro b hb
  rw [pwR_eq (by omega), h b hb]
  decide
theorem chkR_spec {q k : Nat} (hq : IsP q) (hlt : q < 65536) (hb : ∀ b ∈ bases, ¬ q ∣ b) (hc : chkR q = true) (h : ∀ b ∈ bases, b ^ k % q = 1) : q - 1 ∣ k := by
  have h2 := hq.1
  have hD : ∀ b ∈ bases, b ^ Nat.gcd k (q - 1) % q = 1 := by
    intro b hbb
    obtain ⟨d, ⟨hd0, hd1⟩, _, hmin⟩ := least (fun j => 0 < j ∧ b ^ j % q = 1) (q - 1) ⟨by omega, hq.fermat1 (hb b hbb)⟩
    have a1 := ord_dvd h2 hd0 hd1 hmin (h b hbb)
    have a2 := ord_dvd h2 hd0 hd1 hmin (hq.fermat1 (hb b hbb))
    obtain ⟨m, hm⟩ := Nat.dvd_gcd a1 a2
    rw [hm]; exact pow_mod1 h2 hd1 m
  obtain ⟨e, he⟩ := Nat.gcd_dvd_right k (q - 1)
  obtain ⟨D, hDD⟩ : ∃ D, Nat.gcd k (q - 1) = D := ⟨_, rfl⟩
  rw [hDD] at hD he
  have hD0 : D ≠ 0 := by rintro rfl; simp at he; omega
  have he0 : e ≠ 0 := by rintro rfl; simp at he; omega
  by_cases he1 : e = 1
  · rw [he, he1, Nat.mul_one, ← hDD]; exact Nat.gcd_dvd_left _ _
  exfalso
  unfold chkR at hc
  rw [Bool.and_eq_true, List.all_eq_true] at hc
  obtain ⟨r, hr, hre, hor⟩ := minFac (show 2 ≤ e by omega)
  obtain ⟨f, hf⟩ := hre
  have hr2 := hr.1
  have hf0 : f ≠ 0 := by rintro rfl; simp at hf; omega
  rcases Nat.lt_or_ge r 256 with hr3 | hr3
  · have hx := hc.1 r (mem_sm hr hr3)
    have e1 : q - 1 = r * (D * f) := by rw [he, hf, Nat.mul_left_comm]
    have e2 : Nat.div (q - 1) r = D * f := by
      show (q - 1) / r = _
      rw [e1]; exact Nat.mul_div_cancel_left _ (by omega)
    have e3 : Nat.mod (q - 1) r = 0 := by
      show (q - 1) % r = 0
      rw [e1]; exact Nat.mul_mod_right _ _
    have hlt2 : D * f ≤ q - 1 := by rw [e1]; exact Nat.le_mul_of_pos_left _ (by omega)
    rw [e3, e2, nr_no (by omega) (fun b hbb => pow_mod1 h2 (hD b hbb) f)] at hx
    cases hx
  · have hr4 : r ≠ 256 := by
      rintro rfl
      rcases hr.2 2 (by decide) with h' | h' <;> omega
    have hle : e ≤ q - 1 := by rw [he]; exact Nat.le_mul_of_pos_left _ (by omega)
    have hge : 257 ≤ e := by rw [hf]; exact Nat.le_trans (show 257 ≤ r by omega) (Nat.le_mul_of_pos_right _ (by omega))
    have hDle : D ≤ (q - 1) / 257 := by
      rw [Nat.le_div_iff_mul_le (by omega), he]
      exact Nat.mul_le_mul_left _ hge
    have hx := allB_spec hc.2 (D - 1) (by show D - 1 < (q - 1) / 257; omega)
    rw [show D - 1 + 1 = D by omega] at hx
    have e3 : Nat.mod (q - 1) D = 0 := by
      show (q - 1) % D = 0
      rw [he]; exact Nat.mul_mod_right _ _
    rw [e3, nr_no (by omega) hD] at hx
    cases hx
/-- the numbers whose largest factor is q -/
def candB (q : Nat) : Bool := allB (Nat.div 4294967296 (q * (q - 1))) fun s => rej (Nat.mul q (1 + (s + 1) * (q - 1)))
def bigF (q : Nat) : Bool := !Nat.beq (Nat.gcd q P251) 1 || (chkR q && candB q)
def bigB (q : Nat) : Bool := fcB q bigF
/-- the inverse of a modulo m -/
def invE : Nat → Nat → Nat → Nat
  | 0, _, _ => 0
  | f + 1, a, m => bif Nat.beq a 1 then 1 else fcN (Nat.mod m a) fun r => Nat.div (m * (a - invE f r a) + 1) a
/-- the numbers with the factors p and q -/
def pairG (pq L u : Nat) : Bool := Nat.ble (u + 1) L && (Nat.beq (Nat.mod (u * pq) L) 1 && allB (Nat.div 4294967296 (pq * L) + 1) fun t => fcB (pq * (u + t * L)) fun n => Nat.ble 4294967296 n || rej n)
def pairF (pq L : Nat) : Bool := !Nat.beq (Nat.gcd pq L) 1 || fcB (Nat.mod (invE 40 (Nat.mod pq L) L) L) (pairG pq L)
def pairB (p q : Nat) : Bool := fcB (p * q) fun pq => fcB (Nat.div ((p - 1) * (q - 1)) (Nat.gcd (p - 1) (q - 1))) (pairF pq)
def pairsL (q : Nat) : List Nat → Bool
  | [] => true
  | p :: l => bif Nat.ble q p then true else pairB p q && pairsL q l
def powB (q : Nat) : Bool := [2, 3, 4, 5].all fun k => fcB (Nat.pow q k) fun n => Nat.ble 4294967296 n || rej n
/-- the product of 2^f numbers from lo on -/
def prodT : Nat → Nat → Nat
  | 0, lo => lo
  | f + 1, lo => Nat.mul (prodT f lo) (prodT f (lo + 2 ^ f))
def PP : Nat := prodT 16 1
def gFold (k : Nat) : List Nat → Nat → (Nat → Bool) → Bool
  | [], g, f => f g
  | b :: l, g, f => fcB (Nat.gcd g (pwR 3 b k g + g - 1)) fun g' => gFold k l g' f
/-- every prime factor is at most 65536 -/
def smooth (g : Nat) : Bool :=
  fcB (Nat.mod PP g) fun x => fcB (Nat.mod (x * x) g) fun x => fcB (Nat.mod (x * x) g) fun x => fcB (Nat.mod (x * x) g) fun x => fcB (Nat.mod (x * x) g) fun x => fcB (Nat.mod (x * x) g) fun x => fcB (Nat.mod (x * x) g) fun x => Nat.beq x 0
def caseF (c : Nat) : Bool := !Nat.beq (Nat.gcd c 7420738134810) 1 || fcB (Nat.gcd (Nat.pow 2 (c - 1) - 1) (Nat.pow 3 (c - 1) - 1)) fun g => gFold (c - 1) [5, 7, 11, 13, 17, 19, 23, 29, 31, 37] g smooth
def caseA (c : Nat) : Bool := fcB c caseF
theorem dvd_prodT {q : Nat} (hq : IsP q) : ∀ (f lo : Nat), q ∣ prodT f lo → 0 < lo → lo + 2 ^ f ≤ q → False
  | 0, lo, h, h0, h1 => by have := Nat.le_of_dvd h0 h; simp at h1; omega
  | f + 1, lo, h, h0, h1 => by
    rw [Nat.pow_succ] at h1
    rcases hq.dvd_mul (show q ∣ prodT f lo * prodT f (lo + 2 ^ f) from h) with h' | h'
    · exact dvd_prodT hq f lo h' h0 (by omega)
    · exact dvd_prodT hq f _ h' (by omega) (by omega)
theorem sq_dvd {q g x : Nat} (hq : IsP q) (hg : q ∣ g) (h : q ∣ x * x % g) : q ∣ x := by
  have := (Nat.dvd_mod_iff hg).1 h
  rcases hq.dvd_mul this with h' | h' <;> exact h'
theorem smooth_spec {q g : Nat} (hq : IsP q) (hg : q ∣ g) (hlt : 65537 ≤ q) (h : smooth g = true) : False := by
  unfold smooth at h
  simp only [fcB_eq] at h
  have e := Nat.eq_of_beq_eq_true h
  have key : ∀ x, q ∣ Nat.mod (x * x) g → q ∣ x := fun x h => sq_dvd hq hg h
  have h0 : q ∣ Nat.mod PP g := key _ (key _ (key _ (key _ (key _ (key _ ((congrArg (fun z => q ∣ z) e).mpr (Nat.dvd_zero q)))))))
  exact dvd_prodT hq 16 1 ((Nat.dvd_mod_iff hg).1 h0) (by omega) (by omega)
theorem gFold_spec {q k : Nat} (hq : IsP q) (hk : k < 65536) {f : Nat → Bool} : ∀ {l : List Nat} {g : Nat}, (∀ b ∈ l, b ^ k % q = 1) → q ∣ g → gFold k l g f = true → ∃ g', q ∣ g' ∧ f g' = true
  | [], g, _, hg, h => ⟨g, hg, h⟩
  | b :: l, g, hb, hg, h => by
    unfold gFold at h
    rw [fcB_eq] at h
    refine gFold_spec hq hk (fun x hx => hb x (by simp [hx])) (Nat.dvd_gcd hg ?_) h
    have h2 := hq.1
    rw [pwR_eq (by omega)]
    obtain ⟨x, hx⟩ : ∃ x, b ^ k % g = x := ⟨_, rfl⟩
    have e : x % q = 1 := by rw [← hx, Nat.mod_mod_of_dvd _ hg]; exact hb b (by simp)
    rw [hx]
    obtain ⟨c, hc⟩ := hg
    have h5 := Nat.div_add_mod x q
    rw [e] at h5
    exact ⟨x / q + c, by rw [Nat.mul_add]; omega⟩
theorem caseA_spec {q c : Nat} (hq : IsP q) (hlt : 65537 ≤ q) (hc : c < 65536) (hg : Nat.gcd c 7420738134810 = 1) (hb : ∀ b ∈ bases, b ^ (c - 1) % q = 1) (h : caseA c = true) : False := by
  unfold caseA at h
  rw [fcB_eq] at h
  unfold caseF at h
  rw [hg, fcB_eq] at h
  have one : ∀ b ∈ bases, q ∣ Nat.pow b (c - 1) - 1 := fun b hbb => Nat.dvd_of_mod_eq_zero (Nat.sub_mod_eq_zero_of_mod_eq (by
    show b ^ (c - 1) % q = 1 % q
    rw [hb b hbb, Nat.mod_eq_of_lt (by omega)]))
  have h' : gFold (c - 1) [5, 7, 11, 13, 17, 19, 23, 29, 31, 37] (Nat.gcd (Nat.pow 2 (c - 1) - 1) (Nat.pow 3 (c - 1) - 1)) smooth = true := by simpa using h
  obtain ⟨g', h1, h2⟩ := gFold_spec hq (by omega) (fun b hbb => hb b (by
    simp only [List.mem_cons, List.not_mem_nil, or_false] at hbb
    rcases hbb with h | h | h | h | h | h | h | h | h | h <;> subst h <;> decide)) (Nat.dvd_gcd (one 2 (by decide)) (one 3 (by decide))) h'
  exact smooth_spec hq h1 hlt h2
end Num
end Go.Proofs.YtjminjliomffaaaDoor

/- What the kernel reckons: primes below 1999. -/
namespace Go.Proofs.YtjminjliomffaaaDoor
namespace Num
set_option maxRecDepth 1000000
theorem sp_chk : sp.all chkR = true := by decide +kernel
theorem sp_pow : sp.all powB = true := by decide +kernel
end Num
end Go.Proofs.YtjminjliomffaaaDoor
