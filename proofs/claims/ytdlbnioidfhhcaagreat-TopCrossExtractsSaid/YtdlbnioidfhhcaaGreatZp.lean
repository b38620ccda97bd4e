import Derived.Test.YtdlbnioidfhhcaaGreatPwI
import Derived.Test.YtdlbnioidfhhcaaGreatInt
import Derived.Deep.RegionHeld3
/- Powers with signed exponents: they add; Exp at them. -/
namespace Go.Proofs.YtdlbnioidfhhcaaGreat
open Go.RowKit Num
set_option maxRecDepth 20000
set_option linter.unusedVariables false
namespace Num
/-- a power with a signed exponent -/
def zp (m x : Nat) (z : Int) : Nat := sb m x (zb z) ^ z.natAbs % m
theorem uv_cancel {m u v : Nat} (h : u * v % m = 1 % m) (b c : Nat) : u ^ (c + b) * v ^ b % m = u ^ c % m := by
  have e : u ^ (c + b) * v ^ b = u ^ c * (u * v) ^ b := by rw [Nat.pow_add, Nat.mul_pow, Nat.mul_assoc]
  have e2 : (u * v) ^ b % m = 1 % m := by rw [Nat.pow_mod, h, ← Nat.pow_mod, Nat.one_pow]
  rw [e, Nat.mul_mod, e2, ← Nat.mul_mod, Nat.mul_one]
theorem zp_add {m x : Nat} (hm : 0 < m) (h : Nat.gcd x m = 1) (y z : Int) : zp m x (y + z) = zp m x y * zp m x z % m := by
  have hi := (invm_ok hm h).2
  have hi' : invm x m * x % m = 1 % m := by rw [Nat.mul_comm]; exact hi
  have P : ∀ (a : Nat), zp m x (a : Int) = x ^ a % m := fun a => by
    have e : zb (a : Int) = false := decide_eq_false (by omega)
    unfold zp
    rw [e]; rfl
  have N : ∀ (a : Nat), 0 < a → zp m x (-(a : Int)) = invm x m ^ a % m := fun a ha => by
    have e : zb (-(a : Int)) = true := decide_eq_true (by omega)
    unfold zp
    rw [e, Int.natAbs_neg]; rfl
  have N' : ∀ (a : Nat), zp m x (-(a : Int)) = invm x m ^ a % m := fun a => by
    rcases Nat.eq_zero_or_pos a with h0 | h0
    · subst h0; rw [show -((0 : Nat) : Int) = ((0 : Nat) : Int) from rfl, P]; simp
    · exact N a h0
  have cs : ∀ z : Int, (∃ a : Nat, z = (a : Int)) ∨ ∃ a : Nat, z = -(a : Int) := fun z => by
    rcases Int.natAbs_eq z with e | e
    · exact .inl ⟨_, e⟩
    · exact .inr ⟨_, e⟩
  rcases cs y with ⟨a, rfl⟩ | ⟨a, rfl⟩ <;> rcases cs z with ⟨b, rfl⟩ | ⟨b, rfl⟩
  · rw [← Int.natCast_add, P, P, P, ← Nat.mul_mod, ← Nat.pow_add]
  · rcases Nat.lt_or_ge a b with h1 | h1
    · obtain ⟨c, rfl⟩ : ∃ c, b = c + a := ⟨b - a, by omega⟩
      rw [show (a : Int) + -((c + a : Nat) : Int) = -(c : Int) by omega, N', P, N', ← Nat.mul_mod, Nat.mul_comm, uv_cancel hi']
    · obtain ⟨c, rfl⟩ : ∃ c, a = c + b := ⟨a - b, by omega⟩
      rw [show ((c + b : Nat) : Int) + -(b : Int) = (c : Int) by omega, P, P, N', ← Nat.mul_mod, uv_cancel hi]
  · rcases Nat.lt_or_ge b a with h1 | h1
    · obtain ⟨c, rfl⟩ : ∃ c, a = c + b := ⟨a - b, by omega⟩
      rw [show -((c + b : Nat) : Int) + (b : Int) = -(c : Int) by omega, N', N', P, ← Nat.mul_mod, uv_cancel hi']
    · obtain ⟨c, rfl⟩ : ∃ c, b = c + a := ⟨b - a, by omega⟩
      rw [show -(a : Int) + ((c + a : Nat) : Int) = (c : Int) by omega, P, P, N', ← Nat.mul_mod, Nat.mul_comm, uv_cancel hi]
  · rw [show -(a : Int) + -(b : Int) = -((a + b : Nat) : Int) by omega, N', N', N', ← Nat.mul_mod, ← Nat.pow_add]
theorem zp_neg {m x : Nat} (hm : 2 ≤ m) (h : Nat.gcd x m = 1) (z : Int) : zp m x (-z) * zp m x z % m = 1 := by
  rw [← zp_add (by omega) h, show -z + z = (0 : Int) by omega]
  show sb m x false ^ 0 % m = 1
  rw [Nat.pow_zero, Nat.mod_eq_of_lt (by omega)]
theorem el_zp {m o x : Nat} (h : 2 ≤ m) (hx : elN m o x = true) (z : Int) : elN m o (zp m x z) = true := el_pow h (el_sb h hx _) _
end Num
theorem iv_z {g : Bool} {E : ByteArray} (h : ivB (g, E) = true) : ∃ z : Int, g = zb z ∧ E = zs z ∧ ZOk z ∧ z.natAbs = nv E := by
  unfold ivB at h
  rw [Bool.and_eq_true, Bool.not_eq_true'] at h
  obtain ⟨h1, h2⟩ := h
  have hE := isN_of_valid h1
  cases g
  · refine ⟨(nv E : Int), (decide_eq_false (by omega)).symm, ?_, hE.le, by omega⟩
    show E = enc _
    rw [show ((nv E : Nat) : Int).natAbs = nv E by omega]; exact hE.eq
  · have h0 : nv E ≠ 0 := fun e => by
      have : E = ⟨#[]⟩ := by rw [e] at hE; exact empty_of hE
      subst this
      revert h2; decide +kernel
    refine ⟨-(nv E : Int), (decide_eq_true (by omega)).symm, ?_, ?_, by omega⟩
    · show E = enc _
      rw [show (-((nv E : Nat) : Int)).natAbs = nv E by omega]; exact hE.eq
    · show blen _ ≤ 128
      rw [show (-((nv E : Nat) : Int)).natAbs = nv E by omega]; exact hE.le
theorem gExp_z {M O s : ByteArray} (hh : hasB M O s = true) (z : Int) (hz : ZOk z) (w : World) :
    Calls Tryz.prog 64 #[.agg #[.string M, .string O], .string s, .agg #[.bool (zb z), .string (zs z)]] w fun e w' => e = .returned (.tuple #[.string (enc (zp (nv M) (nv s) z)), .int .i64 0]) ∧ Below w.heap.size w w' := by
  have hiv : ivB (zb z, zs z) = true := by unfold ivB; rw [hz.isN.valid, zb_not]; rfl
  have h := gExp_any M O s (zb z) (zs z) w
  rw [gpE_one hh hiv, gpS_one hh hiv, hz.isN.nv] at h
  exact h
end Go.Proofs.YtdlbnioidfhhcaaGreat

/- Plain facts of layer 36: products of handles, the exponents of an update. No program in sight. -/
namespace Go.Proofs.YtdlbnioidfhhcaaGreat
open Go.RowKit Num
set_option maxRecDepth 20000
set_option linter.unusedVariables false
namespace Num
/-- the product of numbers -/
def pdL : List Nat → Nat
  | [] => 1
  | x :: l => x * pdL l
theorem pdL_append : ∀ l k : List Nat, pdL (l ++ k) = pdL l * pdL k
  | [], k => by simp [pdL]
  | x :: l, k => by simp only [List.cons_append, pdL, pdL_append l k, Nat.mul_assoc]
theorem pdL_snoc (l : List Nat) (x : Nat) : pdL (l ++ [x]) = pdL l * x := by rw [pdL_append]; simp [pdL]
theorem pdL_pos : ∀ {l : List Nat}, (∀ x ∈ l, 0 < x) → 0 < pdL l
  | [], _ => Nat.one_pos
  | x :: l, h => Nat.mul_pos (h x (by simp)) (pdL_pos fun y hy => h y (by simp [hy]))
theorem pdL_take_le {l : List Nat} (h : ∀ x ∈ l, 0 < x) (k : Nat) : pdL (l.take k) ≤ pdL l := by
  conv => rhs; rw [← List.take_append_drop k l, pdL_append]
  exact Nat.le_mul_of_pos_right _ (pdL_pos fun y hy => h y (List.mem_of_mem_drop hy))
theorem pdL_take_succ (l : List Nat) (k : Nat) (hk : k < l.length) : pdL (l.take (k + 1)) = pdL (l.take k) * l[k] := by
  rw [List.take_succ_eq_append_getElem hk, pdL_snoc]
theorem pdL_blen {l : List Nat} {c : Nat} (h : ∀ x ∈ l, blen x ≤ c) : blen (pdL l) ≤ c * l.length + 1 := by
  induction l with
  | nil => show blen 1 ≤ _; have : blen 1 = 1 := by decide
           omega
  | cons x l ih =>
    have h1 := h x (by simp)
    have h2 := ih fun y hy => h y (by simp [hy])
    rw [blen_le_iff] at h1 h2 ⊢
    show x * pdL l < _
    rw [List.length_cons, Nat.mul_add, Nat.mul_one, show c * l.length + c + 1 = c + (c * l.length + 1) by omega, Nat.pow_add]
    exact Nat.mul_lt_mul'' h1 h2
/-- the second exponent: the inverse of the handle -/
def wtY (u d : Nat) : Nat := invm u d
/-- the coefficient of the product of the removed handles -/
def wtB (u d : Nat) : Int := (1 - (u : Int) * wtY u d) / d
theorem wt_of {u d : Nat} (hd : 0 < d) (hg : Nat.gcd u d = 1) {x y : Int} (h : (u : Int) * x + d * y = 1) (h0 : 0 ≤ x) (h1 : x < d) : x = wtY u d ∧ y = wtB u d := by
  obtain ⟨n, rfl⟩ : ∃ n : Nat, x = n := ⟨x.toNat, by omega⟩
  have hn : invm u d = n := by
    refine invm_uniq (by omega) ?_
    have e : ((u * n % d : Nat) : Int) = ((1 % d : Nat) : Int) := by
      push_cast
      have e2 : (u : Int) * n = 1 + d * (-y) := by rw [Int.mul_neg]; omega
      rw [e2, Int.add_mul_emod_self_left]
    exact_mod_cast e
  refine ⟨by rw [wtY, hn], ?_⟩
  unfold wtB
  rw [wtY, hn, show 1 - (u : Int) * n = d * y by omega, Int.mul_ediv_cancel_left _ (by omega)]
theorem wt_ok {u d : Nat} (hd : 0 < d) (hg : Nat.gcd u d = 1) : (u : Int) * wtY u d + d * wtB u d = 1 ∧ wtY u d < d := by
  obtain ⟨h1, h2⟩ := invm_ok hd hg
  refine ⟨?_, h1⟩
  have h3 : (d : Int) ∣ 1 - (u : Int) * wtY u d := by
    have e : (u : Int) * wtY u d % d = 1 % d := by
      have e : ((u * invm u d % d : Nat) : Int) = ((1 % d : Nat) : Int) := by rw [h2]
      push_cast at e
      exact e
    refine Int.dvd_of_emod_eq_zero ?_
    rw [Int.sub_emod, e, Int.sub_self, Int.zero_emod]
  unfold wtB
  rw [Int.mul_ediv_cancel' h3]
  omega
/-- the first exponent -/
def wtX (u a d : Nat) : Int := wtB u d * a
theorem wt_abs {u d : Nat} (hd : 0 < d) (hg : Nat.gcd u d = 1) : (wtB u d).natAbs ≤ max u 1 := by
  obtain ⟨h1, h2⟩ := wt_ok hd hg
  have h3 : (d : Int) * wtB u d ≤ 1 := by
    have : (0 : Int) ≤ (u : Int) * wtY u d := Int.mul_nonneg (by omega) (by omega)
    omega
  have h4 : (wtB u d) ≤ 1 := by
    rcases Int.lt_or_le 1 (wtB u d) with h | h
    · exfalso
      have : (1 : Int) * wtB u d ≤ d * wtB u d := Int.mul_le_mul_of_nonneg_right (by omega) (by omega)
      omega
    · exact h
  have h5 : -(u : Int) ≤ wtB u d := by
    rcases Int.lt_or_le (wtB u d) (-(u : Int)) with h | h
    · exfalso
      have e1 : (u : Int) * wtY u d ≤ u * d := Int.mul_le_mul_of_nonneg_left (by omega) (by omega)
      have e2 : (d : Int) * wtB u d ≤ d * (-(u : Int) - 1) := Int.mul_le_mul_of_nonneg_left (by omega) (by omega)
      have e3 : (d : Int) * (-(u : Int) - 1) = -(u * d) - d := by rw [Int.mul_sub, Int.mul_neg, Int.mul_comm, Int.mul_one]
      omega
    · exact h
  omega
theorem wt_bez {u a d : Nat} (hd : 0 < d) (hg : Nat.gcd u d = 1) : wtX u a d * d + (wtY u d : Int) * u * a = a := by
  have h1 := (wt_ok hd hg).1
  unfold wtX
  have e : wtB u d * a * d + (wtY u d : Int) * u * a = (u * wtY u d + d * wtB u d) * a := by
    rw [Int.add_mul, Int.mul_comm (u : Int), Int.mul_comm (d : Int), Int.mul_right_comm (wtB u d), Int.add_comm]
  rw [e, h1, Int.one_mul]
end Num
/-- a string in a list -/
def inB (u : ByteArray) (l : List ByteArray) : Bool := l.any fun x => decide (x.toList = u.toList)
/-- what exponents answers for canonical numbers other than 0 -/
def wxE (u : ByteArray) (la ld : List ByteArray) : Int :=
  if inB u ld = true then 20 else if 128 < blen (pdL (la.map nv)) ∨ 128 < blen (pdL (ld.map nv)) then 5
  else if Nat.gcd (nv u) (pdL (ld.map nv)) ≠ 1 then 1 else if 128 < blen (wtX (nv u) (pdL (la.map nv)) (pdL (ld.map nv))).natAbs then 5 else 0
def zif (c z : Int) : Int := if c = 0 then z else 0
/-- the exponents -/
def wxX (u : ByteArray) (la ld : List ByteArray) : Int := zif (wxE u la ld) (wtX (nv u) (pdL (la.map nv)) (pdL (ld.map nv)))
def wxY (u : ByteArray) (la ld : List ByteArray) : Int := zif (wxE u la ld) (wtY (nv u) (pdL (ld.map nv)) : Int)
theorem wxE_in {u : ByteArray} {la ld : List ByteArray} (h : inB u ld = true) : wxE u la ld = 20 := if_pos h
theorem wxE_long {u : ByteArray} {la ld : List ByteArray} (h : ¬ inB u ld = true) (h1 : 128 < blen (pdL (la.map nv)) ∨ 128 < blen (pdL (ld.map nv))) : wxE u la ld = 5 := by unfold wxE; rw [if_neg h, if_pos h1]
theorem wxE_gcd {u : ByteArray} {la ld : List ByteArray} (h : ¬ inB u ld = true) (h1 : ¬ (128 < blen (pdL (la.map nv)) ∨ 128 < blen (pdL (ld.map nv)))) (h2 : Nat.gcd (nv u) (pdL (ld.map nv)) ≠ 1) : wxE u la ld = 1 := by
  unfold wxE; rw [if_neg h, if_neg h1, if_pos h2]
theorem wxE_over {u : ByteArray} {la ld : List ByteArray} (h : ¬ inB u ld = true) (h1 : ¬ (128 < blen (pdL (la.map nv)) ∨ 128 < blen (pdL (ld.map nv)))) (h2 : Nat.gcd (nv u) (pdL (ld.map nv)) = 1)
    (h3 : 128 < blen (wtX (nv u) (pdL (la.map nv)) (pdL (ld.map nv))).natAbs) : wxE u la ld = 5 := by
  unfold wxE; rw [if_neg h, if_neg h1, if_neg (by simpa using h2), if_pos h3]
theorem wxE_ok {u : ByteArray} {la ld : List ByteArray} (h : ¬ inB u ld = true) (h1 : ¬ (128 < blen (pdL (la.map nv)) ∨ 128 < blen (pdL (ld.map nv)))) (h2 : Nat.gcd (nv u) (pdL (ld.map nv)) = 1)
    (h3 : ¬ 128 < blen (wtX (nv u) (pdL (la.map nv)) (pdL (ld.map nv))).natAbs) : wxE u la ld = 0 := by
  unfold wxE; rw [if_neg h, if_neg h1, if_neg (by simpa using h2), if_neg h3]
theorem wxE_cases (u : ByteArray) (la ld : List ByteArray) : wxE u la ld = 0 ∨ wxE u la ld = 20 ∨ wxE u la ld = 5 ∨ wxE u la ld = 1 := by
  unfold wxE
  split
  · simp
  · split
    · simp
    · split
      · simp
      · split <;> simp
theorem zif_zero (z : Int) : zif 0 z = z := rfl
theorem zif_bad {c : Int} (h : c ≠ 0) (z : Int) : zif c z = 0 := if_neg h
theorem wxE_inv {u : ByteArray} {la ld : List ByteArray} (h : wxE u la ld = 0) : inB u ld = false ∧ blen (pdL (la.map nv)) ≤ 128 ∧ blen (pdL (ld.map nv)) ≤ 128 ∧ Nat.gcd (nv u) (pdL (ld.map nv)) = 1 ∧
    blen (wtX (nv u) (pdL (la.map nv)) (pdL (ld.map nv))).natAbs ≤ 128 := by
  unfold wxE at h
  split at h
  · cases h
  · rename_i h1
    split at h
    · cases h
    · rename_i h2
      split at h
      · cases h
      · rename_i h3
        split at h
        · cases h
        · rename_i h4
          exact ⟨by simpa using h1, by omega, by omega, by omega, by omega⟩
/-- what Exponents answers -/
def fxE (u : ByteArray) (la ld : List ByteArray) : Int := if (u :: la ++ ld).all validB = true then (if (u :: la ++ ld).all (fun x => decide (nv x ≠ 0)) = true then wxE u la ld else 11) else 3
def fxX (u : ByteArray) (la ld : List ByteArray) : Int := zif (fxE u la ld) (wxX u la ld)
def fxY (u : ByteArray) (la ld : List ByteArray) : Int := zif (fxE u la ld) (wxY u la ld)
end Go.Proofs.YtdlbnioidfhhcaaGreat
