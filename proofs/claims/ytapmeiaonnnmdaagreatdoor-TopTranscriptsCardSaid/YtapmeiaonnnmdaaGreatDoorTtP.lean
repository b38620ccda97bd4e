import Derived.Test.YtapmeiaonnnmdaaGreatDoorSgB
/- The statement of the squares modulo 77 with one variable, in plain numbers. -/
namespace Go.Proofs.YtapmeiaonnnmdaaGreatDoor
open Go.RowKit Num
set_option maxRecDepth 20000
set_option linter.unusedVariables false
/-- 4 to an integer power modulo 77: the order of 4 is 15 -/
def pw (z : Int) : Nat := 4 ^ (z % 15).toNat % 77
theorem pow15 (n : Nat) : 4 ^ n % 77 = 4 ^ (n % 15) % 77 := by
  have h : 4 ^ n = (4 ^ 15) ^ (n / 15) * 4 ^ (n % 15) := by rw [← Nat.pow_mul, ← Nat.pow_add, Nat.div_add_mod]
  rw [h, Nat.mul_mod, Nat.pow_mod, show 4 ^ 15 % 77 = 1 by decide, Nat.one_pow]
  rw [show 1 % 77 = 1 by decide, Nat.one_mul, Nat.mod_mod]
theorem pw_nat (n : Nat) : pw (n : Int) = 4 ^ n % 77 := by
  unfold pw
  rw [show ((n : Int) % 15).toNat = n % 15 by omega, ← pow15]
theorem pw_lt (z : Int) : pw z < 77 := Nat.mod_lt _ (by decide)
theorem pw_mod (z : Int) : pw z = pw (((z % 15).toNat : Nat) : Int) := by
  rw [pw_nat]; rfl
theorem pw_same {a b : Int} (h : a % 15 = b % 15) : pw a = pw b := by unfold pw; rw [h]
theorem pw_mul (a b : Int) : pw a * pw b % 77 = pw (a + b) := by
  rw [pw_mod a, pw_mod b, pw_nat, pw_nat, ← Nat.mul_mod, ← Nat.pow_add, ← pw_nat]
  exact pw_same (by omega)
theorem pw_pow (a : Int) (n : Nat) : pw a ^ n % 77 = pw (a * n) := by
  rw [pw_mod a, pw_nat, ← Nat.pow_mod, ← Nat.pow_mul, ← pw_nat]
  refine pw_same ?_
  have h1 : (((a % 15).toNat : Nat) : Int) = a % 15 := by omega
  rw [Int.natCast_mul, h1, Int.mul_emod, Int.mul_emod a n, Int.emod_emod]
theorem pw_inv0 : ∀ i : Nat, i < 15 → invm (4 ^ i % 77) 77 = pw (-(i : Int)) := by decide +kernel
theorem pw_inv (a : Int) : invm (pw a) 77 = pw (-a) := by
  rw [show pw a = 4 ^ (a % 15).toNat % 77 from rfl, pw_inv0 _ (by omega)]
  exact pw_same (by omega)
theorem sb_pw (a z : Int) : sb 77 (pw a) (zb z) ^ z.natAbs % 77 = pw (a * z) := by
  unfold sb zb
  by_cases h : z < 0
  · rw [decide_eq_true h, if_pos rfl, pw_inv, pw_pow]
    congr 1
    rw [show (z.natAbs : Int) = -z by omega, Int.neg_mul_neg]
  · rw [decide_eq_false h, if_neg (by decide), pw_pow]
    congr 1
    rw [show (z.natAbs : Int) = z by omega]
theorem nv77 : nv ⟨#[77]⟩ = 77 := by decide +kernel
theorem has0 : ∀ i, i < 15 → hasB ⟨#[77]⟩ ⟨#[]⟩ (enc (4 ^ i % 77)) = true := by decide +kernel
theorem has_pw (a : Int) : hasB ⟨#[77]⟩ ⟨#[]⟩ (enc (pw a)) = true := has0 _ (by omega)
theorem gE77 : gE ⟨#[77]⟩ ⟨#[]⟩ = 0 := by decide +kernel
theorem iv_s {z : Int} (h : z.natAbs < 65536) : ivB (zb z, zs z) = true := iv_zz (sZ h)
theorem gpE_pw (a z : Int) (h : z.natAbs < 65536) : gpE ⟨#[77]⟩ ⟨#[]⟩ [enc (pw a)] [(zb z, zs z)] = 0 := gpE_one (has_pw a) (iv_s h)
theorem gpS_pw (a z : Int) (h : z.natAbs < 65536) : gpS ⟨#[77]⟩ ⟨#[]⟩ [enc (pw a)] [(zb z, zs z)] = enc (pw (a * z)) := by
  rw [gpS_one (has_pw a) (iv_s h), nv77, nv_enc, (sZ h).isN.nv, sb_pw]
theorem gm_pw (a b : Int) : gmE ⟨#[77]⟩ ⟨#[]⟩ (enc (pw a)) (enc (pw b)) = 0 ∧ gmS ⟨#[77]⟩ ⟨#[]⟩ (enc (pw a)) (enc (pw b)) = enc (pw (a + b)) := by
  have h1 := (hasB_ok (has_pw a)).2.2
  have h2 := (hasB_ok (has_pw b)).2.2
  rw [nv_enc] at h1 h2
  have h := gm_ok gE77 h1 h2
  rw [nv77, pw_mul] at h
  exact h
/-- the statement -/
def ttS (g : ByteArray) (ta : Option Addr) (tc : Nat) : StM := ⟨[(⟨#[77]⟩, ⟨#[]⟩)], [⟨#[20]⟩], [(0, g, (ta, tc, [(⟨#[4]⟩, 0, (false, ⟨#[1]⟩))]))]⟩
theorem ttS_pl (g : ByteArray) (ta : Option Addr) (tc : Nat) : (ttS g ta tc).pl = ⟨[(⟨#[77]⟩, ⟨#[]⟩)], [⟨#[20]⟩], [(0, g, [(⟨#[4]⟩, 0, (false, ⟨#[1]⟩))])]⟩ := rfl
theorem tt_ok (a : Int) (ta : Option Addr) (tc : Nat) : (ttS (enc (pw a)) ta tc).ok := by
  have z : ∀ k, k < 77 → (enc k).size ≤ maxLen := fun k hk => by
    have h1 := (sN (n := k) (by omega)).le
    rw [size_enc]; unfold maxLen; omega
  refine ⟨by simp [ttS, maxLen], by simp [ttS, maxLen], by simp [ttS, maxLen], fun x hx => ?_, fun x hx => ?_, fun x hx => ?_⟩
  · simp [ttS] at hx; subst hx; exact ⟨by decide, by decide⟩
  · simp [ttS] at hx; subst hx; show (1 : Nat) ≤ maxLen; decide
  · simp [ttS] at hx; subst hx
    refine ⟨show (Lit.int .i64 0).wf = true by decide, z _ (pw_lt a), by simp [maxLen], fun t ht => ?_⟩
    simp at ht; subst ht
    exact ⟨by show (1 : Nat) ≤ maxLen; decide, show (Lit.int .i64 0).wf = true by decide, by show (1 : Nat) ≤ maxLen; decide⟩
theorem lck0 : ∀ i, i < 15 → lckE ⟨[(⟨#[77]⟩, ⟨#[]⟩)], [⟨#[20]⟩], [(0, enc (4 ^ i % 77), [(⟨#[4]⟩, 0, (false, ⟨#[1]⟩))])]⟩ = 0 := by decide +kernel
theorem tt_lck (a : Int) (ta : Option Addr) (tc : Nat) : lckE (ttS (enc (pw a)) ta tc).pl = 0 := lck0 _ (by omega)
theorem lck_rst {S : StP} (h : lckE S = 0) : formB S = true ∧ rstE S = 0 := by
  unfold lckE at h
  split at h
  · exact ⟨by assumption, h⟩
  · cases h
theorem tt_rd (a z : Int) (h : z.natAbs < 65536) (ta : Option Addr) (tc : Nat) : rdE (ttS (enc (pw a)) ta tc).pl [(zb z, zs z)] = 0 := by
  obtain ⟨h1, h2⟩ := lck_rst (tt_lck a ta tc)
  unfold rdE
  rw [if_pos ⟨h1, by rw [List.all_cons, iv_s h]; rfl⟩, if_pos h2]
  rfl
theorem zi1 : zi (false, ⟨#[1]⟩) = 1 := by decide +kernel
theorem enc4 : (⟨#[4]⟩ : ByteArray) = enc (pw 1) := by decide +kernel
theorem tt_img (a z : Int) (h : z.natAbs < 65536) (ta : Option Addr) (tc : Nat) : imgS (ttS (enc (pw a)) ta tc).pl [(zb z, zs z)] = [enc (pw z)] := by
  unfold imgS
  rw [if_pos (tt_rd a z h ta tc)]
  show [gpS ⟨#[77]⟩ ⟨#[]⟩ [⟨#[4]⟩] [zm (false, ⟨#[1]⟩) (zb z, zs z)]] = _
  rw [show zm (false, ⟨#[1]⟩) (zb z, zs z) = (zb z, zs z) by unfold zm; rw [zi1, zi_z (sZ h), Int.one_mul], enc4, gpS_pw 1 z h, Int.one_mul]
theorem tt_sms (g : ByteArray) (z : Int) (h : z.natAbs < 65536) (ta : Option Addr) (tc : Nat) : SmS (ttS g ta tc) [(zb z, zs z)] := by
  refine ⟨fun q hq => ?_, fun x hx => ?_⟩
  · simp [ttS] at hq; subst hq
    intro t ht
    simp [eqp] at ht; subst ht
    show (1 : Nat) ≤ 8; decide
  · simp at hx; subst hx
    show (zs z).size ≤ 32
    unfold zs
    rw [size_enc]
    exact Nat.le_trans ((blen_le_iff z.natAbs 2).2 (by omega)) (by omega)
theorem bd0 : ∀ K, 2 ≤ K → K < 4 → ∀ L, 2 ≤ L → L < 4 → validB (enc K) = true ∧ validB (enc L) = true ∧ nv (enc K) = K ∧ nv (enc L) = L := fun K h1 h2 L h3 h4 => ⟨(sN (by omega)).valid, (sN (by omega)).valid, nv_enc K, nv_enc L⟩
theorem tt_bd (a : Int) (K L : Nat) (h1 : 2 ≤ K) (h2 : K < 4) (h3 : 2 ≤ L) (h4 : L < 4) (ta : Option Addr) (tc : Nat) : bdE (enc K) (enc L) (ttS (enc (pw a)) ta tc).pl = 0 := by
  obtain ⟨k1, k2, k3, k4⟩ := bd0 K h1 h2 L h3 h4
  unfold bdE
  rw [if_pos ⟨k1, k2⟩, if_pos (tt_lck a ta tc), if_neg (by rw [k3, k4]; omega), if_neg]
  have e : (ttS (enc (pw a)) ta tc).pl.V.any (lowB (enc K) (ordL (ttS (enc (pw a)) ta tc).pl.G)) = (lowB (enc K) (ordL (ttS (enc (pw a)) ta tc).pl.G) ⟨#[20]⟩ || false) := rfl
  rw [e]
  unfold lowB
  rw [show emB ⟨#[20]⟩ = false by decide +kernel]
  simp
theorem tt_lim (K L : Nat) (q : ByteArray) : limP (enc K) (enc L) q ⟨#[20]⟩ = (enc (L * K * 20), enc (L * K * 20 - (K - 1) * 19)) := by
  unfold limP
  rw [if_neg (by decide +kernel), nv_enc, nv_enc, show nv ⟨#[20]⟩ = 20 by decide +kernel]
end Go.Proofs.YtapmeiaonnnmdaaGreatDoor
