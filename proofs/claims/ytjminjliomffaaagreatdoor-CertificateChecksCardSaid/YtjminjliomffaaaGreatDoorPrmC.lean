import Derived.Test.YtjminjliomffaaaGreatDoorPrmB
import Derived.Test.YtjminjliomffaaaGreatDoorRfA
import Derived.Test.YtjminjliomffaaaGreatDoorBytes
import Derived.BigQuiet
import Derived.Deep.QuietTactic
import Derived.Test.YtjminjliomffaaaGreatDoorNatE
/- Contracts of the reference of layer 4: Formed, U, Of, AddMod, MulMod, ExpMod, StrongU, IsU, Mod. -/
namespace Go.Proofs.YtjminjliomffaaaGreatDoor
open Go.RowKit Num
set_option maxRecDepth 20000
set_option linter.unusedVariables false

namespace Num
theorem mul_odd {a b out : Nat} (h : b % 2 = 1) : out + a + (a + a) * (b / 2) = out + a * b := by
  have e1 : b = 1 + 2 * (b / 2) := by omega
  conv => rhs; rw [e1, Nat.mul_add, Nat.mul_one, ← Nat.mul_assoc]
  rw [show a + a = a * 2 from by omega]; omega
theorem mul_even {a b out : Nat} (h : b % 2 = 0) : out + (a + a) * (b / 2) = out + a * b := by
  have e1 : b = 2 * (b / 2) := by omega
  conv => rhs; rw [e1, ← Nat.mul_assoc]
  rw [show a + a = a * 2 from by omega]
theorem mul_stepm {x a b m : Nat} : (x % m + a % m * b) % m = (x + a * b) % m := by
  rw [Nat.add_mod, Nat.mod_mod, Nat.mod_mul_mod, ← Nat.add_mod]
theorem mul_stepm0 {x a b m : Nat} : (x + a % m * b) % m = (x + a * b) % m := by
  rw [Nat.add_mod, Nat.mod_mul_mod, ← Nat.add_mod]
end Num
theorem refAddMod_any (a b m : Nat) (w : World) (ha : a < m) (hb : b < m) (hm : m < 18446744073709551616) :
    Calls Tryz.prog 142 #[.int .u64 (a : Int), .int .u64 (b : Int), .int .u64 (m : Int)] w fun e w' => e = .returned (.int .u64 (((a + b) % m : Nat) : Int)) ∧ w = w' := by
  by_cases h : m - b ≤ a
  · have e1 : (a + b) % m = a - (m - b) := by rw [Nat.mod_eq_sub_mod (by omega), Nat.mod_eq_of_lt (by omega)]; omega
    have E1 := Lib.hid e1
    clear e1
    go_enter Tryz.func142, Tryz.ntmps142
    go_wp2
    go_ret
    exact ⟨ret_int (by rw [E1.out]; omega), rfl⟩
  · have e1 : (a + b) % m = a + b := Nat.mod_eq_of_lt (by omega)
    have E1 := Lib.hid e1
    clear e1
    go_enter Tryz.func142, Tryz.ntmps142
    go_wp2
    go_ret
    exact ⟨ret_int (by rw [E1.out]; omega), rfl⟩
set_option maxHeartbeats 1000000 in
theorem refMulMod_any (a b m : Nat) (w : World) (ha : a < m) (hb : b < m) (hm : m < 18446744073709551616) :
    Calls Tryz.prog 129 #[.int .u64 (a : Int), .int .u64 (b : Int), .int .u64 (m : Int)] w fun e w' => e = .returned (.int .u64 ((a * b % m : Nat) : Int)) ∧ w = w' := by
  by_cases h32 : m < 4294967296
  · have nz : ((m : Int) == 0) = false := by rw [beq_eq_false_iff_ne]; omega
    have nz2 : ¬ ((m : Int) = 0) := by omega
    have hp : a * b < 18446744073709551616 := by
      calc a * b < m * m := Nat.mul_lt_mul'' ha hb
        _ ≤ 4294967296 * 4294967296 := Nat.mul_le_mul (by omega) (by omega)
    have o1 : IntKind.u64.wrap ((a : Int) * (b : Int)) = ((a * b : Nat) : Int) := by rw [← Int.natCast_mul]; exact wraps_u64 _ (by omega) (by omega)
    have r1 : ((a * b : Nat) : Int).tmod (m : Int) = ((a * b % m : Nat) : Int) := by rw [Int.tmod_eq_emod_of_nonneg (by omega)]; simp
    have hr := Nat.mod_lt (a * b) (show 0 < m by omega)
    obtain ⟨x, hx⟩ : ∃ x, a * b = x := ⟨_, rfl⟩
    rw [hx] at o1 r1 hr ⊢
    obtain ⟨y, hy⟩ : ∃ y, x % m = y := ⟨_, rfl⟩
    rw [hy] at r1 hr ⊢
    have d1 : decide ((m : Int) < 4294967296) = true := by rw [decide_eq_true_eq]; omega
    have hm32 := Lib.hid h32
    clear hx hy hp h32
    go_enter Tryz.func129, Tryz.ntmps129
    go_wp2
    go_ret
    exact ⟨rfl, rfl⟩
  · obtain ⟨T, hT⟩ : ∃ T, a * b % m = T := ⟨_, rfl⟩
    have hinit : Hid ((0 + a * b) % m = T) := by show _ = _; rw [Nat.zero_add]; exact hT
    rw [hT]
    have d1 : decide ((m : Int) < 4294967296) = false := by rw [decide_eq_false_iff_not]; omega
    clear hT h32
    go_enter Tryz.func129, Tryz.ntmps129
    go_wp2_with fail
    clear d1
    go_loop [0, 1, 7] (fun va vb vo => ∃ a2 b2 x2 : Nat, va = .int .u64 (a2 : Int) ∧ vb = .int .u64 (b2 : Int) ∧ vo = .int .u64 (x2 : Int) ∧ a2 < m ∧ x2 < m ∧ b2 < 18446744073709551616 ∧ Hid ((x2 + a2 * b2) % m = T))
      (fun _ vb _ => (intOf vb).toNat)
    case atStart => exact ⟨a, b, 0, rfl, rfl, rfl, ha, by omega, by omega, hinit⟩
    case round =>
      clear hinit ha hb
      obtain ⟨a2, b2, x2, rfl, rfl, rfl, ha2, hx2, hb2, hT⟩ := hrel
      by_cases hz : b2 = 0
      · subst hz
        have hxT : x2 = T := by
          have := hT.out
          rw [Nat.mul_zero, Nat.add_zero, Nat.mod_eq_of_lt hx2] at this; exact this
        clear hT
        subst hxT
        go_wp2_with fail
        go_ret
        exact ⟨rfl, rfl⟩
      · by_cases hodd : b2 % 2 = 1
        · have hst : ((x2 + a2) % m + (a2 + a2) % m * (b2 / 2)) % m = T := by rw [mul_stepm, mul_odd hodd]; exact hT.out
          have HST := Lib.hid hst
          clear hst hT
          have t1 : ((b2 : Int) % 2 == 1) = true := by rw [beq_iff_eq]; omega
          have l1 := Nat.mod_lt (x2 + a2) (show 0 < m by omega)
          have l2 := Nat.mod_lt (a2 + a2) (show 0 < m by omega)
          go_wp2_with fail
          refine (refAddMod_any x2 a2 m _ hx2 ha2 hm).mono ?_
          rintro y w1 ⟨rfl, rfl⟩
          go_wp2_with fail
          refine (refAddMod_any a2 a2 m _ ha2 ha2 hm).mono ?_
          rintro y w2 ⟨rfl, rfl⟩
          go_wp2_with fail
          exact ⟨⟨_, b2 / 2, _, rfl, by simp, rfl, l2, l1, by omega, HST.out⟩, by simp [intOf]; omega⟩
        · have hst : (x2 + (a2 + a2) % m * (b2 / 2)) % m = T := by rw [mul_stepm0, mul_even (by omega)]; exact hT.out
          have HST := Lib.hid hst
          clear hst hT
          have t1 : ((b2 : Int) % 2 == 1) = false := by rw [beq_eq_false_iff_ne]; omega
          have l2 := Nat.mod_lt (a2 + a2) (show 0 < m by omega)
          go_wp2_with fail
          refine (refAddMod_any a2 a2 m _ ha2 ha2 hm).mono ?_
          rintro y w2 ⟨rfl, rfl⟩
          go_wp2_with fail
          exact ⟨⟨_, b2 / 2, _, rfl, by simp, rfl, l2, hx2, by omega, HST.out⟩, by simp [intOf]; omega⟩
set_option maxHeartbeats 1000000 in
theorem refExpMod_any (a e m : Nat) (w : World) (h0 : 0 < m) (ha : a < m) (he : e < 18446744073709551616) (hm : m < 18446744073709551616) :
    Calls Tryz.prog 128 #[.int .u64 (a : Int), .int .u64 (e : Int), .int .u64 (m : Int)] w fun x w' => x = .returned (.int .u64 ((a ^ e % m : Nat) : Int)) ∧ w = w' := by
  have nz : ((m : Int) == 0) = false := by rw [beq_eq_false_iff_ne]; omega
  have nz2 : ¬ ((m : Int) = 0) := by omega
  have r1 : (1 : Int).tmod (m : Int) = ((1 % m : Nat) : Int) := by rw [Int.tmod_eq_emod_of_nonneg (by omega)]; simp
  have r2 : IntKind.u64.wrap ((1 % m : Nat) : Int) = ((1 % m : Nat) : Int) := wraps_u64 _ (by omega) (by have := Nat.mod_lt 1 h0; omega)
  have hx0 : 1 % m < m := Nat.mod_lt _ h0
  obtain ⟨x0, hx⟩ : ∃ x0, 1 % m = x0 := ⟨_, rfl⟩
  have hinit : (x0 * a ^ e) % m = a ^ e % m := by rw [← hx, Nat.mod_mul_mod, Nat.one_mul]
  rw [hx] at r1 r2 hx0
  have HI := Lib.hid hinit
  clear hinit hx
  obtain ⟨T, hT⟩ : ∃ T, a ^ e % m = T := ⟨_, rfl⟩
  rw [hT] at HI ⊢
  clear hT
  go_enter Tryz.func128, Tryz.ntmps128
  go_wp2_with fail
  go_loop [0, 1, 7] (fun va ve vx => ∃ a2 e2 x2 : Nat, va = .int .u64 (a2 : Int) ∧ ve = .int .u64 (e2 : Int) ∧ vx = .int .u64 (x2 : Int) ∧ a2 < m ∧ x2 < m ∧ e2 < 18446744073709551616 ∧ Hid ((x2 * a2 ^ e2) % m = T))
    (fun _ ve _ => (intOf ve).toNat)
  case atStart => exact ⟨a, e, x0, rfl, rfl, rfl, ha, hx0, he, HI⟩
  case round =>
    clear r1 r2 hx0 HI ha he nz
    obtain ⟨a2, e2, x2, rfl, rfl, rfl, ha2, hx2, he2, hT⟩ := hrel
    by_cases hz : e2 = 0
    · subst hz
      have hxT : x2 = T := by
        have := hT.out
        rw [Nat.pow_zero, Nat.mul_one, Nat.mod_eq_of_lt hx2] at this; exact this
      clear hT
      subst hxT
      go_wp2_with fail
      go_ret
      exact ⟨rfl, rfl⟩
    · by_cases hodd : e2 % 2 = 1
      · have hst : ((x2 * a2 % m) * (a2 * a2 % m) ^ (e2 / 2)) % m = T := by rw [pow_step, pow_odd hodd]; exact hT.out
        have HST := Lib.hid hst
        clear hst hT
        have t1 : ((e2 : Int) % 2 == 1) = true := by rw [beq_iff_eq]; omega
        have l1 := Nat.mod_lt (x2 * a2) h0
        have l2 := Nat.mod_lt (a2 * a2) h0
        go_wp2_with fail
        refine (refMulMod_any x2 a2 m _ hx2 ha2 hm).mono ?_
        rintro y w1 ⟨rfl, rfl⟩
        go_wp2_with fail
        refine (refMulMod_any a2 a2 m _ ha2 ha2 hm).mono ?_
        rintro y w2 ⟨rfl, rfl⟩
        go_wp2_with fail
        exact ⟨⟨_, e2 / 2, _, rfl, by simp, rfl, l2, l1, by omega, HST.out⟩, by simp [intOf]; omega⟩
      · have hst : (x2 * (a2 * a2 % m) ^ (e2 / 2)) % m = T := by rw [pow_step0, pow_even (by omega)]; exact hT.out
        have HST := Lib.hid hst
        clear hst hT
        have t1 : ((e2 : Int) % 2 == 1) = false := by rw [beq_eq_false_iff_ne]; omega
        have l2 := Nat.mod_lt (a2 * a2) h0
        go_wp2_with fail
        refine (refMulMod_any a2 a2 m _ ha2 ha2 hm).mono ?_
        rintro y w2 ⟨rfl, rfl⟩
        go_wp2_with fail
        exact ⟨⟨_, e2 / 2, _, rfl, by simp, rfl, l2, hx2, by omega, HST.out⟩, by simp [intOf]; omega⟩
namespace Num
/-- what the strong test of 64 bits answers: for any number, to a base below it -/
def strongU (n a : Nat) : Bool := if n < 3 ∨ n % 2 = 0 then n == 2 else if a = 0 then true else strongB n a
end Num
set_option maxHeartbeats 2000000 in
theorem refStrongU_any (n a : Nat) (w : World) (hn : n < 18446744073709551616) (ha : a < n) :
    Calls Tryz.prog 101 #[.int .u64 (n : Int), .int .u64 (a : Int)] w fun e w' => e = .returned (.bool (strongU n a)) ∧ w = w' := by
  by_cases h3 : n < 3 ∨ n % 2 = 0
  · have hr : strongU n a = (n == 2) := by unfold strongU; rw [if_pos h3]
    have HR := Lib.hid hr
    clear hr
    have fin : ((n : Int) == 2) = (n == 2) := by rw [Bool.eq_iff_iff, beq_iff_eq, beq_iff_eq]; omega
    have FIN := Lib.hid fin
    clear fin
    by_cases h4 : n < 3
    · go_enter Tryz.func101, Tryz.ntmps101
      go_wp2
      go_ret
      exact ⟨ret_bool (by rw [HR.out, FIN.out]), rfl⟩
    · have t1 : ((n : Int) % 2 == 0) = true := by rw [beq_iff_eq]; omega
      go_enter Tryz.func101, Tryz.ntmps101
      go_wp2
      go_ret
      exact ⟨ret_bool (by rw [HR.out, FIN.out]), rfl⟩
  · have t1 : ((n : Int) % 2 == 0) = false := by rw [beq_eq_false_iff_ne]; omega
    have h3n : 3 ≤ n := by omega
    have h2n : n % 2 = 1 := by omega
    by_cases h0 : a = 0
    · have hr : strongU n a = true := by unfold strongU; rw [if_neg h3, if_pos h0]
      subst h0
      have HR := Lib.hid hr
      clear hr h3
      go_enter Tryz.func101, Tryz.ntmps101
      go_wp2
      go_ret
      exact ⟨ret_bool HR.out.symm, rfl⟩
    · have hr : strongU n a = strongB n a := by unfold strongU; rw [if_neg h3, if_neg h0]
      have HR := Lib.hid hr
      have t2 : ((a : Int) == 0) = false := by rw [beq_eq_false_iff_ne]; omega
      have hlt := tz_lt (n := n - 1) (by omega) 64 (by omega)
      clear hr h3
      go_enter Tryz.func101, Tryz.ntmps101
      go_wp2_with fail
      go_loop [5, 6] (fun vd vs => ∃ d s : Nat, vd = .int .u64 (d : Int) ∧ vs = .int .i64 (s : Int) ∧ 0 < d ∧ d ≤ n - 1 ∧ s ≤ 64 ∧ Hid (tz d + s = tz (n - 1)) ∧ Hid (odp d = odp (n - 1))) (fun vd _ => (intOf vd).toNat)
      case atStart => exact ⟨n - 1, 0, by congr 1; omega, rfl, by omega, by omega, by omega, rfl, rfl⟩
      case round =>
        obtain ⟨d, s, rfl, rfl, hd0, hd1, hs, hts, hod⟩ := hrel
        by_cases hev : d % 2 = 0
        · have u1 : ((d : Int) % 2 == 0) = true := by rw [beq_iff_eq]; omega
          have h1 : tz (d / 2) + (s + 1) = tz (n - 1) := by rw [← hts.out, tz_even (by omega) hev]; omega
          have h2 : odp (d / 2) = odp (n - 1) := by rw [← odp_even (by omega) hev]; exact hod.out
          have h5 : s + 1 ≤ 64 := by omega
          have H1 := Lib.hid h1
          have H2 := Lib.hid h2
          clear h1 h2 hts hod
          go_wp2_with fail
          exact ⟨⟨d / 2, s + 1, by simp, by go_num, by omega, by omega, h5, H1.out, H2.out⟩, by simp [intOf]; omega⟩
        · have u1 : ((d : Int) % 2 == 0) = false := by rw [beq_eq_false_iff_ne]; omega
          have h1 : tz (n - 1) = s := by rw [← hts.out, tz_odd (by omega)]; omega
          have h2 : odp (n - 1) = d := by rw [← hod.out, odp_odd (by omega)]
          have HS := Lib.hid h1
          have HD := Lib.hid h2
          clear h1 h2 hts hod hlt
          go_wp2_with fail
          refine (refExpMod_any a d n _ (by omega) ha (by omega) hn).mono ?_
          rintro e w4 ⟨rfl, rfl⟩
          obtain ⟨x, hx⟩ : ∃ x, a ^ d % n = x := ⟨_, rfl⟩
          have hxn : x < n := by rw [← hx]; exact Nat.mod_lt _ (by omega)
          rw [hx]
          by_cases x1 : x = 1
          · have hs1 : strongB n a = true := strong_one (by rw [HD.out, hx, x1])
            have HS1 := Lib.hid hs1
            subst x1
            clear hx hs1
            go_wp2_with fail
            go_ret
            exact ⟨ret_bool (by rw [HR.out, HS1.out]), rfl⟩
          · have nx1 : a ^ odp (n - 1) % n ≠ 1 := by rw [HD.out, hx]; exact x1
            have NX1 := Lib.hid nx1
            have HX := Lib.hid hx
            have v1 : ((x : Int) == 1) = false := by rw [beq_eq_false_iff_ne]; omega
            clear nx1 hx
            go_wp2_with fail
            go_loop [7, 8] (fun vx vi => ∃ i xx : Nat, i ≤ s ∧ vi = .int .i64 i ∧ vx = .int .u64 (xx : Int) ∧ xx < n ∧ Hid (xx = a ^ (d * 2 ^ i) % n) ∧ Hid (∀ j, j < i → hit n a j = false)) (fun _ vi => s - (intOf vi).toNat)
            case atStart => exact ⟨0, x, by omega, rfl, rfl, hxn, by show _ = _; rw [← HX.out]; simp, fun j h => by omega⟩
            case round =>
              clear hxn HX v1 x1
              obtain ⟨i, xx, hi, rfl, rfl, hxx, hxe, hno⟩ := hrel
              by_cases his : i < s
              · by_cases hyy : xx = n - 1
                · have hs1 : strongB n a = true := strong_hit (i := i) (by rw [HS.out]; exact his) (by unfold hit; rw [HD.out, ← hxe.out, hyy]; simp)
                  have HS1 := Lib.hid hs1
                  have v2 : ((xx : Int) == (n : Int) - 1) = true := by rw [beq_iff_eq]; omega
                  clear hs1 hyy
                  go_wp2_with fail
                  go_ret
                  exact ⟨ret_bool (by rw [HR.out, HS1.out]), rfl⟩
                · have v2 : ((xx : Int) == (n : Int) - 1) = false := by rw [beq_eq_false_iff_ne]; omega
                  have hno4 : Hid (∀ j, j < i + 1 → hit n a j = false) := fun j hj => by
                    by_cases e : j = i
                    · subst e
                      unfold hit
                      rw [HD.out, ← hxe.out]
                      simpa using hyy
                    · exact hno.out j (by omega)
                  have hsq : xx * xx % n = a ^ (d * 2 ^ (i + 1)) % n := by rw [hxe.out, sq_next]
                  have hyn := Nat.mod_lt (xx * xx) (show 0 < n by omega)
                  have HSQ := Lib.hid hsq
                  clear hyy hsq
                  go_wp2_with fail
                  refine (refMulMod_any xx xx n _ hxx hxx hn).mono ?_
                  rintro e w6 ⟨rfl, rfl⟩
                  go_wp2_with fail
                  exact ⟨⟨i + 1, _, by omega, by go_num, rfl, hyn, HSQ.out, hno4⟩, by simp [intOf]; omega⟩
              · obtain rfl : i = s := by omega
                have hs1 : strongB n a = false := strong_no NX1.out (by rw [HS.out]; exact hno.out)
                have HS1 := Lib.hid hs1
                clear hs1
                go_wp2_with fail
                go_ret
                exact ⟨ret_bool (by rw [HR.out, HS1.out]), rfl⟩
end Go.Proofs.YtjminjliomffaaaGreatDoor

/- Contracts: prime.small, Is, Next, Safe, and dominoref04 Formed, U, Of, IsU, Is, NextU, Next, Safe. -/
namespace Go.Proofs.YtjminjliomffaaaGreatDoor
open Go.RowKit Num
set_option maxRecDepth 20000
set_option linter.unusedVariables false

/-- the error of a number that must be short -/
def smE (s : ByteArray) : Int := if validB s = true then (if s.size ≤ 8 then 0 else 5) else 3
def okN (s : ByteArray) : Bool := validB s && decide (s.size ≤ 8)
def isS (s : ByteArray) : Bool := okN s && isB (nv s)
def sfS (s : ByteArray) : Bool := okN s && (isB (nv s) && isB ((nv s - 1) / 2))
theorem cls (s : ByteArray) : (validB s = false ∧ smE s = 3 ∧ okN s = false) ∨ (validB s = true ∧ 8 < s.size ∧ smE s = 5 ∧ okN s = false) ∨ (IsN s (nv s) ∧ s.size ≤ 8 ∧ nv s < 18446744073709551616 ∧ smE s = 0 ∧ okN s = true) := by
  by_cases hv : validB s = true
  · by_cases h8 : s.size ≤ 8
    · refine .inr (.inr ⟨isN_of_valid hv, h8, ?_, by unfold smE; rw [if_pos hv, if_pos h8], by unfold okN; rw [hv, decide_eq_true h8]; rfl⟩)
      have h1 := nv_lt s
      have h2 : 256 ^ s.size ≤ 256 ^ 8 := Nat.pow_le_pow_right (by omega) h8
      omega
    · exact .inr (.inl ⟨hv, by omega, by unfold smE; rw [if_pos hv, if_neg h8], by unfold okN; rw [hv, decide_eq_false h8]; rfl⟩)
  · have hv2 : validB s = false := by simpa using hv
    exact .inl ⟨hv2, by unfold smE; rw [if_neg hv], by unfold okN; rw [hv2]; rfl⟩
theorem prsmall_bad (s : ByteArray) (w : World) (h : validB s = false) :
    Calls Tryz.prog 71 #[.string s] w fun e w' => e = .returned (.tuple #[.int .u64 0, .int .i64 3]) ∧ w = w' := by
  have H := Lib.hid h
  clear h
  go_enter Tryz.func71, Tryz.ntmps71
  go_wp2_with (go_at_call 18; refine (Valid_any _ _).mono ?_; rw [H.out]; rintro e w' ⟨rfl, rfl⟩)
  go_ret2
  exact ⟨rfl, rfl⟩
theorem prsmall_long (s : ByteArray) (w : World) (h : validB s = true) (h8 : 8 < s.size) :
    Calls Tryz.prog 71 #[.string s] w fun e w' => e = .returned (.tuple #[.int .u64 0, .int .i64 5]) ∧ w = w' := by
  have hn := isN_of_valid h
  have hd : decide (blen (nv s) ≤ 8) = false := decide_eq_false (by rw [← hn.size]; omega)
  have HN := Lib.hid hn
  have HD := Lib.hid hd
  clear h h8 hn hd
  go_enter Tryz.func71, Tryz.ntmps71
  go_wp2_with fail
  refine (Valid_yes _ _ _ HN.out).mono ?_; rintro e w' ⟨rfl, rfl⟩
  go_wp2_with fail
  refine (Small_any _ _ _ HN.out).mono ?_; rintro e w' ⟨rfl, rfl⟩
  rw [HD.out]
  go_wp2_with fail
  go_ret2
  exact ⟨rfl, rfl⟩
theorem prsmall_ok (s : ByteArray) (w : World) (h : IsN s (nv s)) (h8 : s.size ≤ 8) :
    Calls Tryz.prog 71 #[.string s] w fun e w' => e = .returned (.tuple #[.int .u64 ((nv s : Nat) : Int), .int .i64 0]) ∧ w = w' := by
  have hd : decide (blen (nv s) ≤ 8) = true := decide_eq_true (by rw [← h.size]; omega)
  have hs := sm_short (show blen (nv s) ≤ 8 by rw [← h.size]; omega)
  have HN := Lib.hid h
  have HD := Lib.hid hd
  have HS := Lib.hid hs
  clear h h8 hd hs
  go_enter Tryz.func71, Tryz.ntmps71
  go_wp2_with fail
  refine (Valid_yes _ _ _ HN.out).mono ?_; rintro e w' ⟨rfl, rfl⟩
  go_wp2_with fail
  refine (Small_any _ _ _ HN.out).mono ?_; rintro e w' ⟨rfl, rfl⟩
  rw [HD.out, HS.out]
  go_wp2_with fail
  go_ret2
  exact ⟨rfl, rfl⟩
theorem ret_ib {b c : Bool} {k : IntKind} {x y : Int} (h : x = y) (g : b = c) : Ending.returned (.tuple #[.int k x, .bool b]) = .returned (.tuple #[.int k y, .bool c]) := by rw [h, g]
theorem ret_bi {b c : Bool} {k : IntKind} {x y : Int} (h : b = c) (g : x = y) : Ending.returned (.tuple #[.bool b, .int k x]) = .returned (.tuple #[.bool c, .int k y]) := by rw [h, g]
theorem prIs_any (s : ByteArray) (w : World) (hT : Tab w) :
    Calls Tryz.prog 43 #[.string s] w fun e w' => e = .returned (.tuple #[.bool (isS s), .int .i64 (smE s)]) ∧ Below w.heap.size w w' := by
  rcases cls s with ⟨h1, h2, h3⟩ | ⟨h1, h8, h2, h3⟩ | ⟨h1, h8, hlt, h2, h3⟩
  · have e1 : isS s = false := by unfold isS; rw [h3]; rfl
    rw [e1, h2]
    have H1 := Lib.hid h1
    clear h1 h2 h3 e1
    go_enter Tryz.func43, Tryz.ntmps43
    go_wp2_with fail
    refine (prsmall_bad _ _ H1.out).mono ?_; rintro e w' ⟨rfl, rfl⟩
    go_wp2_with fail
    go_ret2
    exact ⟨rfl, Below.refl _ _⟩
  · have e1 : isS s = false := by unfold isS; rw [h3]; rfl
    rw [e1, h2]
    have H1 := Lib.hid (And.intro h1 h8)
    clear h1 h2 h3 e1 h8
    go_enter Tryz.func43, Tryz.ntmps43
    go_wp2_with fail
    refine (prsmall_long _ _ H1.out.1 H1.out.2).mono ?_; rintro e w' ⟨rfl, rfl⟩
    go_wp2_with fail
    go_ret2
    exact ⟨rfl, Below.refl _ _⟩
  · have e1 : isS s = isB (nv s) := by unfold isS; rw [h3]; rfl
    rw [e1, h2]
    have H1 := Lib.hid (And.intro h1 h8)
    have HL := Lib.hid hlt
    clear h1 h2 h3 e1 h8 hlt
    go_enter Tryz.func43, Tryz.ntmps43
    go_wp2_with fail
    refine (prsmall_ok _ _ H1.out.1 H1.out.2).mono ?_; rintro e w' ⟨rfl, rfl⟩
    go_wp2_with fail
    refine (is_any (nv s) _ HL.out hT).mono ?_; rintro e w' ⟨rfl, hb⟩
    go_wp2_with fail
    go_ret2
    exact ⟨rfl, hb⟩
theorem refFormed_any (s : ByteArray) (w : World) :
    Calls Tryz.prog 61 #[.string s] w fun e w' => e = .returned (.bool (validB s)) ∧ w = w' := by
  by_cases h : s.size ≤ 128
  · by_cases h0 : s.size = 0
    · obtain rfl := bytes_zero h0
      go_enter Tryz.func61, Tryz.ntmps61
      go_wp2
      go_ret
      exact ⟨ret_bool (by simp [validB, canon_empty h0]; decide), rfl⟩
    · have hp : 0 < s.size := by omega
      go_enter Tryz.func61, Tryz.ntmps61
      go_wp2
      go_ret
      refine ⟨ret_bool ?_, rfl⟩
      have := canon_pos hp
      rw [Bool.eq_iff_iff]; simp [validB, h, this]
      intro e; subst e; exact absurd rfl h0
  · go_enter Tryz.func61, Tryz.ntmps61
    go_wp2
    go_ret
    exact ⟨ret_bool (by simp [validB, h]), rfl⟩
theorem nvL_take_step' (l : List UInt8) (k : Nat) (h : k < l.length) : nvL (l.take (k + 1)) = nvL (l.take k) * 256 + l[k].toNat := by
  rw [List.take_succ_eq_append_getElem h, nvL_append]
  simp [nvL]
theorem refU_any (s : ByteArray) (w : World) (hs : s.size ≤ 1000000) :
    Calls Tryz.prog 62 #[.string s] w fun e w' => e = .returned (.tuple #[.int .u64 ((nv s % 18446744073709551616 : Nat) : Int), .bool (decide (s.size ≤ 8))]) ∧ w = w' := by
  obtain ⟨l, rfl⟩ : ∃ l : List UInt8, s = ⟨l.toArray⟩ := ⟨s.data.toList, by simp⟩
  have hl : (⟨l.toArray⟩ : ByteArray).size = l.length := by simp [ByteArray.size]
  have hnv : nv ⟨l.toArray⟩ = nvL l := by simp [nv]
  have HNV := Lib.hid hnv; clear hnv
  go_enter Tryz.func62, Tryz.ntmps62
  go_wp2
  go_loop [4, 5] (fun n i => ∃ k : Nat, k ≤ l.length ∧ i = .int .i64 k ∧ n = .int .u64 ((nvL (l.take k) % 18446744073709551616 : Nat) : Int)) (fun _ i => l.length - (intOf i).toNat)
  case atStart => exact ⟨0, by omega, rfl, by simp [nvL]⟩
  case round =>
    obtain ⟨k, hk, rfl, rfl⟩ := hrel
    by_cases hlt : k < l.length
    · have st := nvL_take_step' l k hlt
      obtain ⟨x, hx⟩ : ∃ x, nvL (l.take k) = x := ⟨_, rfl⟩
      rw [hx] at st ⊢
      have hb := l[k].toNat_lt
      obtain ⟨x8, hx8⟩ : ∃ y, x % 18446744073709551616 = y := ⟨_, rfl⟩
      have hx9 : x8 < 18446744073709551616 := by omega
      rw [hx8]
      have ev : IntKind.u64.wrap (IntKind.u64.wrap ((x8 : Int) * 256) + IntKind.u64.wrap (((⟨l.toArray⟩ : ByteArray)[k]'(by rw [hl]; exact hlt)).toNat : Int)) = ((nvL (l.take (k + 1)) % 18446744073709551616 : Nat) : Int) := by
        rw [show ((⟨l.toArray⟩ : ByteArray)[k]'(by rw [hl]; exact hlt)) = l[k] from rfl, wraps_u64 (l[k].toNat : Int) (by omega) (by omega), IntKind.wrap_u64, IntKind.wrap_u64, st]
        omega
      have EV := Lib.hid ev
      have X9 := Lib.hid hx9
      clear ev hx8 hx9
      go_wp2
      exact ⟨⟨k + 1, by omega, by go_num, by rw [EV.out]⟩, by simp [intOf]; omega⟩
    · obtain rfl : k = l.length := by omega
      rw [List.take_length]
      go_wp2
      go_ret2
      rw [HNV.out]
      exact ⟨ret_ib (by simp) (by rw [decide_eq_decide]; omega), rfl⟩

set_option maxHeartbeats 2000000 in
theorem refIsU_any (n : Nat) (w : World) (hn : n < 18446744073709551616) :
    Calls Tryz.prog 63 #[.int .u64 (n : Int)] w fun e w' => e = .returned (.bool (isB n)) ∧ Below w.heap.size w w' := by
  rcases Nat.lt_or_ge n 2 with h2 | h2
  · have hb := isB_small h2
    have HB := Lib.hid hb
    clear hb
    go_enter Tryz.func63, Tryz.ntmps63
    go_wp2_with fail
    go_ret
    exact ⟨ret_bool HB.out.symm, Below.refl _ _⟩
  · have harr : Arr (w.alloc (.cells #[.int .u64 2, .int .u64 3, .int .u64 5, .int .u64 7, .int .u64 11, .int .u64 13, .int .u64 17, .int .u64 19, .int .u64 23, .int .u64 29, .int .u64 31, .int .u64 37] 41)) w.heap.size 41 .u64 12 bf := Arr.made (by kernel_rfl)
    have hbA : Below w.heap.size w (w.alloc (.cells #[.int .u64 2, .int .u64 3, .int .u64 5, .int .u64 7, .int .u64 11, .int .u64 13, .int .u64 17, .int .u64 19, .int .u64 23, .int .u64 29, .int .u64 31, .int .u64 37] 41)) := (Below.refl _ _).alloc (Nat.le_refl _) _
    go_enter Tryz.func63, Tryz.ntmps63
    go_wp2_with fail
    generalize World.alloc _ _ = w1 at harr hbA ⊢
    go_loop [4] (fun i => ∃ k : Nat, k ≤ 12 ∧ i = .int .i64 k ∧ Hid (∀ j : Nat, j < k → n % bases[j]! ≠ 0)) (fun i => 12 - (intOf i).toNat)
    case atStart => exact ⟨0, by omega, rfl, fun j h => by omega⟩
    case round =>
      obtain ⟨k, hk, rfl, hno⟩ := hrel
      by_cases hlt : k < 12
      · have hpb : ∀ i : Nat, i < 12 → bases[i]! ≤ 37 ∧ 2 ≤ bases[i]! := by decide
        obtain ⟨hp1, hp2⟩ := hpb k hlt
        clear hpb
        have hcell := harr.cell hlt
        obtain ⟨p, hp⟩ : ∃ p, bases[k]! = p := ⟨_, rfl⟩
        have hbf : bf k = (p : Int) := by unfold bf; rw [hp]
        rw [hbf] at hcell
        rw [hp] at hp1 hp2
        have HP := Lib.hid hp
        clear hp hbf
        have nz : ((p : Int) == 0) = false := by rw [beq_eq_false_iff_ne]; omega
        have nz2 : ¬ ((p : Int) = 0) := by omega
        have m1 : (n : Int).tmod (p : Int) = ((n % p : Nat) : Int) := by rw [Int.tmod_eq_emod_of_nonneg (by omega)]; simp
        by_cases hnp : n = p
        · have hd : n % p = 0 := by rw [hnp, Nat.mod_self]
          have hr := isB_div h2 hlt hno.out (by rw [HP.out]; exact hd)
          rw [HP.out, hnp] at hr
          have hr2 : isB n = true := by rw [hnp, hr]; simp
          have HR := Lib.hid hr2
          have t1 : ((n : Int) == (p : Int)) = true := by rw [beq_iff_eq]; omega
          clear hr hr2 hnp hd m1 nz nz2
          go_wp2_with fail
          go_ret
          exact ⟨ret_bool HR.out.symm, hbA⟩
        · have t1 : ((n : Int) == (p : Int)) = false := by rw [beq_eq_false_iff_ne]; omega
          by_cases hd : n % p = 0
          · rw [hd] at m1
            have hr := isB_div h2 hlt hno.out (by rw [HP.out]; exact hd)
            rw [HP.out] at hr
            have hr2 : isB n = false := by rw [hr]; simpa using hnp
            have HR := Lib.hid hr2
            clear hr hr2 hnp
            go_wp2_with fail
            go_ret
            exact ⟨ret_bool HR.out.symm, hbA⟩
          · have hno2 : Hid (∀ j : Nat, j < k + 1 → n % bases[j]! ≠ 0) := fun j hj => by
              by_cases e : j = k
              · subst e; rw [HP.out]; exact hd
              · exact hno.out j (by omega)
            have hm := Nat.mod_lt n (show 0 < p by omega)
            obtain ⟨m, hm0⟩ : ∃ m, n % p = m := ⟨_, rfl⟩
            rw [hm0] at m1 hd hm
            clear hm0 hnp
            go_wp2_with fail
            exact ⟨⟨k + 1, by omega, by go_num, hno2⟩, by simp [intOf]; omega⟩
      · obtain rfl : k = 12 := by omega
        obtain ⟨h37, hodd⟩ := no_base h2 hno.out
        go_wp2_with fail
        go_loop [5] (fun i => ∃ k : Nat, k ≤ 12 ∧ i = .int .i64 k ∧ Hid (∀ i : Nat, i < k → strongB n bases[i]! = true)) (fun i => 12 - (intOf i).toNat)
        case atStart => exact ⟨0, by omega, rfl, fun j h => by omega⟩
        case round =>
          obtain ⟨k, hk, rfl, hst⟩ := hrel
          by_cases hlt2 : k < 12
          · have hpb : ∀ i : Nat, i < 12 → bases[i]! ≤ 37 ∧ 2 ≤ bases[i]! := by decide
            obtain ⟨hp1, hp2⟩ := hpb k hlt2
            clear hpb
            have hcell := harr.cell hlt2
            obtain ⟨p, hp⟩ : ∃ p, bases[k]! = p := ⟨_, rfl⟩
            have hbf : bf k = (p : Int) := by unfold bf; rw [hp]
            rw [hbf] at hcell
            rw [hp] at hp1 hp2
            have HP := Lib.hid hp
            clear hp hbf
            have hsu : strongU n p = strongB n p := by unfold strongU; rw [if_neg (by omega), if_neg (by omega)]
            have HSU := Lib.hid hsu
            clear hsu
            go_wp2_with fail
            refine (refStrongU_any n p _ hn (by omega)).mono ?_
            rintro e w4 ⟨rfl, rfl⟩
            rw [HSU.out]
            rcases Bool.eq_false_or_eq_true (strongB n p) with hs | hs
            · have hst2 : Hid (∀ i : Nat, i < k + 1 → strongB n bases[i]! = true) := fun i hi => by
                by_cases e : i = k
                · subst e; rw [HP.out]; exact hs
                · exact hst.out i (by omega)
              rw [hs]
              clear hs
              go_wp2_with fail
              exact ⟨⟨k + 1, by omega, by go_num, hst2⟩, by simp [intOf]; omega⟩
            · have hbn : isB n = false := isB_no h2 hno.out hlt2 (by rw [HP.out]; exact hs)
              have HBN := Lib.hid hbn
              rw [hs]
              clear hs hbn
              go_wp2_with fail
              go_ret
              exact ⟨ret_bool HBN.out.symm, hbA⟩
          · obtain rfl : k = 12 := by omega
            have hyes := isB_yes h2 hno.out hst.out
            have HY := Lib.hid hyes
            clear hyes
            go_wp2_with fail
            go_ret
            exact ⟨ret_bool HY.out.symm, hbA⟩
end Go.Proofs.YtjminjliomffaaaGreatDoor

/- Contracts: prime.Next, Safe and dominoref04 Is, NextU, Next, Safe. -/
namespace Go.Proofs.YtjminjliomffaaaGreatDoor
open Go.RowKit Num
set_option maxRecDepth 20000
set_option linter.unusedVariables false

namespace Num
/-- the least number that passes the test, among the f next ones -/
def nextF : Nat → Nat → Option Nat
  | 0, _ => none
  | f + 1, n => if isB (n + 1) = true then some (n + 1) else nextF f (n + 1)
def nextP (n : Nat) : Option Nat := nextF (18446744073709551615 - n) n
theorem nextP_none : nextP 18446744073709551615 = none := rfl
theorem nextP_step {n : Nat} (h : n < 18446744073709551615) : nextP n = if isB (n + 1) = true then some (n + 1) else nextP (n + 1) := by
  unfold nextP
  obtain ⟨k, hk⟩ : ∃ k, 18446744073709551615 - n = k + 1 := ⟨18446744073709551615 - n - 1, by omega⟩
  rw [hk, show 18446744073709551615 - (n + 1) = k from by omega]
  rfl
theorem nextF_spec : ∀ (f n p : Nat), nextF f n = some p → n < p ∧ p ≤ n + f ∧ isB p = true ∧ ∀ m, n < m → m < p → isB m = false
  | 0, n, p, h => by cases h
  | f + 1, n, p, h => by
    unfold nextF at h
    by_cases hb : isB (n + 1) = true
    · rw [if_pos hb] at h
      cases h
      exact ⟨by omega, by omega, hb, fun m h1 h2 => by omega⟩
    · rw [if_neg hb] at h
      obtain ⟨h1, h2, h3, h4⟩ := nextF_spec f (n + 1) p h
      refine ⟨by omega, by omega, h3, fun m h5 h6 => ?_⟩
      by_cases e : m = n + 1
      · subst e; simpa using hb
      · exact h4 m (by omega) h6
end Num
/-- the number that Next returns, and its error -/
def nxS (s : ByteArray) : ByteArray := if okN s = true then (match nextP (nv s) with | some p => enc p | none => ⟨#[]⟩) else ⟨#[]⟩
def nxE (s : ByteArray) : Int := if okN s = true then (match nextP (nv s) with | some p => 0 | none => 5) else smE s

theorem refIs_any (s : ByteArray) (w : World) (hs : s.size ≤ 1000000) :
    Calls Tryz.prog 36 #[.string s] w fun e w' => e = .returned (.tuple #[.bool (isS s), .int .i64 (smE s)]) ∧ Below w.heap.size w w' := by
  rcases cls s with ⟨h1, h2, h3⟩ | ⟨h1, h8, h2, h3⟩ | ⟨h1, h8, hlt, h2, h3⟩
  · have e1 : isS s = false := by unfold isS; rw [h3]; rfl
    rw [e1, h2]
    have H1 := Lib.hid h1
    clear h1 h2 h3 e1
    go_enter Tryz.func36, Tryz.ntmps36
    go_wp2_with fail
    refine (refFormed_any _ _).mono ?_; rintro e w' ⟨rfl, rfl⟩
    rw [H1.out]
    go_wp2_with fail
    go_ret2
    exact ⟨rfl, Below.refl _ _⟩
  · have e1 : isS s = false := by unfold isS; rw [h3]; rfl
    rw [e1, h2]
    have hd : decide (s.size ≤ 8) = false := decide_eq_false (by omega)
    have HD := Lib.hid hd
    have H1 := Lib.hid h1
    clear h1 h2 h3 e1 h8 hd
    go_enter Tryz.func36, Tryz.ntmps36
    go_wp2_with fail
    refine (refFormed_any _ _).mono ?_; rintro e w' ⟨rfl, rfl⟩
    rw [H1.out]
    go_wp2_with fail
    refine (refU_any _ _ hs).mono ?_; rintro e w' ⟨rfl, rfl⟩
    rw [HD.out]
    go_wp2_with fail
    go_ret2
    exact ⟨rfl, Below.refl _ _⟩
  · have e1 : isS s = isB (nv s) := by unfold isS; rw [h3]; rfl
    rw [e1, h2]
    have hd : decide (s.size ≤ 8) = true := decide_eq_true h8
    have hm : nv s % 18446744073709551616 = nv s := Nat.mod_eq_of_lt hlt
    have HD := Lib.hid hd
    have HM := Lib.hid hm
    have H1 := Lib.hid h1.valid
    have HL := Lib.hid hlt
    clear h1 h2 h3 e1 h8 hd hm hlt
    go_enter Tryz.func36, Tryz.ntmps36
    go_wp2_with fail
    refine (refFormed_any _ _).mono ?_; rintro e w' ⟨rfl, rfl⟩
    rw [H1.out]
    go_wp2_with fail
    refine (refU_any _ _ hs).mono ?_; rintro e w' ⟨rfl, rfl⟩
    rw [HD.out, HM.out]
    go_wp2_with fail
    refine (refIsU_any (nv s) _ HL.out).mono ?_; rintro e w' ⟨rfl, hb⟩
    go_wp2_with fail
    go_ret2
    exact ⟨rfl, hb⟩
end Go.Proofs.YtjminjliomffaaaGreatDoor
