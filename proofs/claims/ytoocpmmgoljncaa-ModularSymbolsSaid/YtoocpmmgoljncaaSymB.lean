/- Plain facts: Euler's criterion, the Legendre symbol modulo small primes. No program in sight. -/
import Derived.Test.YtoocpmmgoljncaaSym
namespace Go.Proofs.Ytoocpmmgoljncaa
namespace Num
theorem pig : ∀ (n : Nat) (l : List Nat), l.Nodup → (∀ x ∈ l, x < n) → l.length ≤ n
  | 0, l, _, h => by
    cases l with
    | nil => simp
    | cons x t => have := h x (by simp); omega
  | n + 1, l, hd, h => by
    by_cases hn : n ∈ l
    · have h1 := pig n (l.erase n) (hd.erase n) (fun x hx => by
        have := (hd.mem_erase_iff).1 hx
        have := h x this.2
        omega)
      rw [List.length_erase_of_mem hn] at h1
      omega
    · have h1 := pig n l hd (fun x hx => by
        have h2 := h x hx
        have h3 : x ≠ n := fun e => hn (e ▸ hx)
        omega)
      omega
/-- a small odd prime -/
structure SP (p : Nat) : Prop where
  isp : IsP p
  o : p % 2 = 1
  l : p < 4000
theorem SP.ge {p : Nat} (h : SP p) : 3 ≤ p := by have := h.isp.1; have := h.o; omega
theorem SP.half {p : Nat} (h : SP p) : 2 * ((p - 1) / 2) = p - 1 := by have := h.o; have := h.ge; omega
theorem SP.mem {p : Nat} (h : SP p) : p ∈ oddP := mem_oddP h.isp h.o h.l
theorem ndvd {a p : Nat} (h : a % p ≠ 0) : ¬ p ∣ a := fun hd => h (Nat.mod_eq_zero_of_dvd hd)
theorem ev_mod (a p : Nat) : ev (a % p) p = ev a p := by unfold ev; rw [← Nat.pow_mod]
theorem ev_mul (a b p : Nat) : ev (a * b) p = ev a p * ev b p % p := by unfold ev; rw [Nat.mul_pow, Nat.mul_mod]
theorem SP.ev_sq {p : Nat} (h : SP p) {x : Nat} (hx : x % p ≠ 0) : ev (x * x) p = 1 := by
  unfold ev
  rw [← Nat.pow_two, ← Nat.pow_mul, h.half]
  exact h.isp.fermat1 (ndvd hx)
theorem SP.ev_two {p : Nat} (h : SP p) {x : Nat} (hx : x % p ≠ 0) : ev x p = 1 ∨ ev x p = p - 1 := by
  have h3 := h.ge
  refine h.isp.sqrt_one (Nat.mod_lt _ (by omega)) ?_
  show ev x p * ev x p % p = 1
  rw [← ev_mul, h.ev_sq hx]
/-- is a the square of a number from 1 to p - 1? -/
def isq (a p : Nat) : Bool := (List.range p).any fun x => decide (1 ≤ x) && x * x % p == a % p
theorem isq_iff (a p : Nat) : isq a p = true ↔ ∃ x, 1 ≤ x ∧ x < p ∧ x * x % p = a % p := by
  unfold isq
  rw [List.any_eq_true]
  constructor
  · rintro ⟨x, hx, h⟩
    rw [Bool.and_eq_true, decide_eq_true_eq, beq_iff_eq] at h
    exact ⟨x, h.1, List.mem_range.1 hx, h.2⟩
  · rintro ⟨x, h1, h2, h3⟩
    exact ⟨x, List.mem_range.2 h2, by rw [Bool.and_eq_true, decide_eq_true_eq, beq_iff_eq]; exact ⟨h1, h3⟩⟩
theorem SP.isq_ev {p a : Nat} (h : SP p) (hq : isq a p = true) : ev a p = 1 := by
  obtain ⟨x, h1, h2, h3⟩ := (isq_iff a p).1 hq
  rw [← ev_mod, ← h3, ev_mod]
  exact h.ev_sq (by rw [Nat.mod_eq_of_lt h2]; omega)
/-- multiples of squares differ -/
theorem SP.inj {p c x y : Nat} (h : SP p) (hc : c % p ≠ 0) (hx : 1 ≤ x) (hxy : x < y) (hy : y ≤ (p - 1) / 2) : c * (x * x) % p ≠ c * (y * y) % p := by
  intro e
  have hh := h.half
  have hle : c * (x * x) ≤ c * (y * y) := Nat.mul_le_mul_left c (Nat.mul_le_mul (by omega) (by omega))
  have hd : p ∣ c * (y * y) - c * (x * x) := Nat.dvd_of_mod_eq_zero (Nat.sub_mod_eq_zero_of_mod_eq e.symm)
  obtain ⟨d, rfl⟩ : ∃ d, y = x + d := ⟨y - x, by omega⟩
  have e2 : c * ((x + d) * (x + d)) - c * (x * x) = c * (d * (2 * x + d)) := by
    rw [← Nat.mul_sub]
    congr 1
    have : (x + d) * (x + d) = x * x + d * (2 * x + d) := by
      rw [Nat.mul_add, Nat.add_mul, Nat.mul_add, Nat.add_mul]
      have : d * (2 * x) = x * d + d * x := by rw [Nat.mul_comm 2 x, ← Nat.mul_assoc, Nat.mul_comm d x]; omega
      omega
    omega
  rw [e2] at hd
  rcases h.isp.dvd_mul hd with h1 | h1
  · exact ndvd hc h1
  · rcases h.isp.dvd_mul h1 with h2 | h2
    · have := Nat.le_of_dvd (by omega) h2; omega
    · have := Nat.le_of_dvd (by omega) h2; omega
def sqs (c p : Nat) : List Nat := (List.range' 1 ((p - 1) / 2)).map fun x => c * (x * x) % p
theorem SP.sqs_nodup {p c : Nat} (h : SP p) (hc : c % p ≠ 0) : (sqs c p).Nodup := by
  unfold sqs List.Nodup
  rw [List.pairwise_map]
  refine List.Pairwise.imp_of_mem ?_ (List.pairwise_lt_range' (s := 1) (n := (p - 1) / 2))
  intro x y hx hy hxy
  rw [List.mem_range'_1] at hx hy
  exact h.inj hc hx.1 hxy (by omega)
theorem mem_sqs {c p z : Nat} (h : z ∈ sqs c p) : ∃ x, 1 ≤ x ∧ x ≤ (p - 1) / 2 ∧ z = c * (x * x) % p := by
  unfold sqs at h
  rw [List.mem_map] at h
  obtain ⟨x, hx, rfl⟩ := h
  rw [List.mem_range'_1] at hx
  exact ⟨x, hx.1, by omega, rfl⟩
theorem length_sqs (c p : Nat) : (sqs c p).length = (p - 1) / 2 := by simp [sqs]
theorem SP.bez {p x : Nat} (h : SP p) (hx : x % p ≠ 0) : ∃ y, x * y % p = 1 := by
  have h3 := h.ge
  refine ⟨x ^ (p - 2), ?_⟩
  rw [← Nat.pow_succ', show (p - 2).succ = p - 1 by omega]
  exact h.isp.fermat1 (ndvd hx)
theorem SP.ev_isq {p a : Nat} (h : SP p) (ha : a % p ≠ 0) (he : ev a p = 1) : isq a p = true := by
  have h3 := h.ge
  have hh := h.half
  apply Classical.byContradiction
  intro hq
  -- a number that is no square, by Euler's power
  have hn := List.all_eq_true.1 non_all p h.mem
  rw [List.any_eq_true] at hn
  obtain ⟨n, _, hn⟩ := hn
  rw [Bool.and_eq_true, beq_iff_eq, bne_iff_ne] at hn
  have h1 : (1 : Nat) % p ≠ 0 := by rw [Nat.mod_eq_of_lt (by omega)]; omega
  have hxp : ∀ x, 1 ≤ x → x ≤ (p - 1) / 2 → x % p ≠ 0 := fun x h4 h5 => by rw [Nat.mod_eq_of_lt (by omega)]; omega
  have evs : ∀ c, c % p ≠ 0 → ev c p = 1 → ∀ z, z ∈ sqs c p → ev z p = 1 ∧ z < p ∧ z ≠ 0 := fun c hc hce z hz => by
    obtain ⟨x, h4, h5, rfl⟩ := mem_sqs hz
    refine ⟨?_, Nat.mod_lt _ (by omega), ?_⟩
    · rw [ev_mod, ev_mul, hce, h.ev_sq (hxp x h4 h5), Nat.mod_eq_of_lt (by omega)]
    · intro e
      rcases h.isp.dvd_mul (Nat.dvd_of_mod_eq_zero e) with h6 | h6
      · exact ndvd hc h6
      · rcases h.isp.dvd_mul h6 with h7 | h7 <;> exact ndvd (hxp x h4 h5) h7
  have ev1 : ev 1 p = 1 := by unfold ev; rw [Nat.one_pow, Nat.mod_eq_of_lt (by omega)]
  have hdis : ∀ z, z ∈ sqs 1 p → z ∉ sqs a p := fun z hz hz2 => by
    obtain ⟨x, h4, h5, e1⟩ := mem_sqs hz
    obtain ⟨y, h6, h7, e2⟩ := mem_sqs hz2
    obtain ⟨u, hu⟩ := h.bez (hxp y h6 h7)
    apply hq
    rw [isq_iff]
    rw [Nat.one_mul] at e1
    have e3 : x * u % p * (x * u % p) % p = a % p := by
      rw [← Nat.mul_mod, show x * u * (x * u) = x * x * (u * u) by rw [Nat.mul_mul_mul_comm], Nat.mul_mod, ← e1, e2, ← Nat.mul_mod]
      rw [show a * (y * y) * (u * u) = a * ((y * u) * (y * u)) by rw [Nat.mul_assoc, Nat.mul_mul_mul_comm], Nat.mul_mod, Nat.mul_mod (y * u), hu]
      simp
    refine ⟨x * u % p, ?_, Nat.mod_lt _ (by omega), e3⟩
    rcases Nat.eq_zero_or_pos (x * u % p) with h8 | h8
    · rw [h8] at e3; simp at e3; exact absurd e3.symm ha
    · exact h8
  have hnz : n % p ≠ 0 := hn.2
  have hne : ∀ c, c % p ≠ 0 → ev c p = 1 → n % p ∉ sqs c p := fun c hc hce hz => by
    have := (evs c hc hce _ hz).1
    rw [ev_mod, hn.1] at this
    omega
  have hnd : (0 :: n % p :: (sqs 1 p ++ sqs a p)).Nodup := by
    rw [List.nodup_cons, List.nodup_cons, List.nodup_append]
    refine ⟨?_, ?_, h.sqs_nodup h1, h.sqs_nodup ha, fun z hz y hy e => hdis z hz (e ▸ hy)⟩
    · intro hm
      rw [List.mem_cons, List.mem_append] at hm
      rcases hm with h4 | h4 | h4
      · exact hnz h4.symm
      · exact (evs 1 h1 ev1 _ h4).2.2 rfl
      · exact (evs a ha he _ h4).2.2 rfl
    · intro hm
      rw [List.mem_append] at hm
      rcases hm with h4 | h4
      · exact hne 1 h1 ev1 h4
      · exact hne a ha he h4
  have hlt : ∀ z ∈ (0 :: n % p :: (sqs 1 p ++ sqs a p)), z < p := by
    intro z hz
    rw [List.mem_cons, List.mem_cons, List.mem_append] at hz
    rcases hz with h4 | h4 | h4 | h4
    · omega
    · rw [h4]; exact Nat.mod_lt _ (by omega)
    · exact (evs 1 h1 ev1 _ h4).2.1
    · exact (evs a ha he _ h4).2.1
  have := pig p _ hnd hlt
  simp only [List.length_cons, List.length_append, length_sqs] at this
  omega
/-- the Legendre symbol, by trying all squares -/
def lg (a p : Nat) : Int := if a % p = 0 then 0 else if isq a p = true then 1 else -1
theorem lg_mod (a p : Nat) : lg (a % p) p = lg a p := by unfold lg isq; rw [Nat.mod_mod]
theorem SP.lg_ev {p a : Nat} (h : SP p) (ha : a % p ≠ 0) : lg a p = if ev a p = 1 then 1 else -1 := by
  unfold lg
  rw [if_neg ha]
  by_cases he : ev a p = 1
  · rw [if_pos he, if_pos (h.ev_isq ha he)]
  · rw [if_neg he, if_neg (fun hq => he (h.isq_ev hq))]
theorem SP.lg_mul {p : Nat} (h : SP p) (a b : Nat) : lg (a * b) p = lg a p * lg b p := by
  have h3 := h.ge
  by_cases ha : a % p = 0
  · have : a * b % p = 0 := by rw [Nat.mul_mod, ha, Nat.zero_mul, Nat.zero_mod]
    unfold lg; rw [if_pos ha, if_pos this, Int.zero_mul]
  · by_cases hb : b % p = 0
    · have : a * b % p = 0 := by rw [Nat.mul_mod, hb, Nat.mul_zero, Nat.zero_mod]
      unfold lg; rw [if_pos hb, if_pos this, Int.mul_zero]
    · have hab : a * b % p ≠ 0 := fun e => by
        rcases h.isp.dvd_mul (Nat.dvd_of_mod_eq_zero e) with h1 | h1
        · exact ndvd ha h1
        · exact ndvd hb h1
      rw [h.lg_ev ha, h.lg_ev hb, h.lg_ev hab, ev_mul]
      have q : (p - 1) * (p - 1) % p = 1 := by
        obtain ⟨k, rfl⟩ : ∃ k, p = k + 1 := ⟨p - 1, by omega⟩
        simp only [Nat.add_sub_cancel]
        have : k * k = 1 + (k + 1) * (k - 1) := by
          obtain ⟨j, rfl⟩ : ∃ j, k = j + 1 := ⟨k - 1, by omega⟩
          simp only [Nat.add_sub_cancel, Nat.add_mul, Nat.mul_add]; omega
        rw [this, Nat.add_mul_mod_self_left, Nat.mod_eq_of_lt (by omega)]
      have m1 : (1 : Nat) % p = 1 := Nat.mod_eq_of_lt (by omega)
      have m2 : (p - 1) % p = p - 1 := Nat.mod_eq_of_lt (by omega)
      have n1 : p - 1 ≠ 1 := by omega
      rcases h.ev_two ha with e1 | e1 <;> rcases h.ev_two hb with e2 | e2 <;> rw [e1, e2] <;> simp [m1, m2, q, n1]
theorem SP.lg_two {p : Nat} (h : SP p) : lg 2 p = if p % 8 = 3 ∨ p % 8 = 5 then -1 else 1 := by
  have h3 := h.ge
  have ho := h.o
  rw [h.lg_ev (by rw [Nat.mod_eq_of_lt (by omega)]; omega)]
  have := List.all_eq_true.1 two_all p h.mem
  rw [beq_iff_eq] at this
  by_cases e : ev 2 p = 1
  · rw [if_pos e]
    rw [e] at this
    simp at this
    rw [if_neg (by omega)]
  · rw [if_neg e]
    rw [show (ev 2 p == 1) = false by rw [beq_eq_false_iff_ne]; exact e] at this
    simp at this
    rw [if_pos (by omega)]
/-- the sign of reciprocity -/
def sgn (a m : Nat) : Int := if a % 4 = 3 ∧ m % 4 = 3 then -1 else 1
theorem SP.lg_rec {p q : Nat} (h : SP p) (k : SP q) : lg q p = sgn q p * lg p q := by
  by_cases e : p = q
  · subst e
    unfold lg
    rw [if_pos (Nat.mod_self p), Int.mul_zero]
  · have d1 : q % p ≠ 0 := fun hd => by
      rcases k.isp.2 p (Nat.dvd_of_mod_eq_zero hd) with h1 | h1
      · have := h.ge; omega
      · exact e h1
    have d2 : p % q ≠ 0 := fun hd => by
      rcases h.isp.2 q (Nat.dvd_of_mod_eq_zero hd) with h1 | h1
      · have := k.ge; omega
      · exact e h1.symm
    have hr := rc_mem h.mem k.mem e
    rw [h.lg_ev d1, k.lg_ev d2]
    unfold rc at hr
    have t1 : ∀ a b : Nat, (a == b) = decide (a = b) := fun a b => rfl
    simp only [t1] at hr
    unfold sgn
    by_cases e1 : ev q p = 1 <;> by_cases e2 : ev p q = 1 <;> by_cases e3 : p % 4 = 3 <;> by_cases e4 : q % 4 = 3 <;> simp [e1, e2, e3, e4] at hr ⊢
end Num
end Go.Proofs.Ytoocpmmgoljncaa
