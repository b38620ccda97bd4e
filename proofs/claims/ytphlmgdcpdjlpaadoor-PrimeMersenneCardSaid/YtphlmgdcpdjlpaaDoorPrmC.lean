/- Contracts of the reference of layer 4: Formed, U, Of, AddMod, MulMod, ExpMod, StrongU, IsU, Mod. -/
import Derived.Test.YtphlmgdcpdjlpaaDoorPrmB
import Derived.Test.YtphlmgdcpdjlpaaDoorRfAux
import Derived.Test.YtphlmgdcpdjlpaaDoorBytes
import Derived.BigQuiet
import Derived.Deep.QuietTactic
namespace Go.Proofs.YtphlmgdcpdjlpaaDoor
open Go.RowKit Num
set_option maxRecDepth 20000
set_option linter.unusedVariables false

namespace Num
theorem mul_odd {a b out : Nat} (h : b % 2 = 1) : out + a + (a + a) * (b / 2) = out + a * b := by
  have e1 : b = 1 + 2 * (b / 2) := by omega
  conv => rhs; rw [e1, Nat.mul_add, Nat.mul_one, ← Nat.mul_assoc]
  rw [show a + a = a * 2 from by omega]; omega
theorem mul_even {a b out : Nat} (h : b % 2 = 0) : out + (a + a) * (b / 2) = out + a * b := by
  have e1 : b = 2 * (b / 2) := by omega
  conv => rhs; rw [e1, ← Nat.mul_assoc]
  rw [show a + a = a * 2 from by omega]
theorem mul_stepm {x a b m : Nat} : (x % m + a % m * b) % m = (x + a * b) % m := by
  rw [Nat.add_mod, Nat.mod_mod, Nat.mod_mul_mod, ← Nat.add_mod]
theorem mul_stepm0 {x a b m : Nat} : (x + a % m * b) % m = (x + a * b) % m := by
  rw [Nat.add_mod, Nat.mod_mul_mod, ← Nat.add_mod]
end Num
theorem refAddMod_any (a b m : Nat) (w : World) (ha : a < m) (hb : b < m) (hm : m < 18446744073709551616) :
    Calls Tryd.prog 59 #[.int .u64 (a : Int), .int .u64 (b : Int), .int .u64 (m : Int)] w fun e w' => e = .returned (.int .u64 (((a + b) % m : Nat) : Int)) ∧ w = w' := by
  by_cases h : m - b ≤ a
  · have e1 : (a + b) % m = a - (m - b) := by rw [Nat.mod_eq_sub_mod (by omega), Nat.mod_eq_of_lt (by omega)]; omega
    have E1 := Lib.hid e1
    clear e1
    go_enter Tryd.func59, Tryd.ntmps59
    go_wp2
    go_ret
    exact ⟨ret_int (by rw [E1.out]; omega), rfl⟩
  · have e1 : (a + b) % m = a + b := Nat.mod_eq_of_lt (by omega)
    have E1 := Lib.hid e1
    clear e1
    go_enter Tryd.func59, Tryd.ntmps59
    go_wp2
    go_ret
    exact ⟨ret_int (by rw [E1.out]; omega), rfl⟩
set_option maxHeartbeats 1000000 in
theorem refMulMod_any (a b m : Nat) (w : World) (ha : a < m) (hb : b < m) (hm : m < 18446744073709551616) :
    Calls Tryd.prog 58 #[.int .u64 (a : Int), .int .u64 (b : Int), .int .u64 (m : Int)] w fun e w' => e = .returned (.int .u64 ((a * b % m : Nat) : Int)) ∧ w = w' := by
  by_cases h32 : m < 4294967296
  · have nz : ((m : Int) == 0) = false := by rw [beq_eq_false_iff_ne]; omega
    have nz2 : ¬ ((m : Int) = 0) := by omega
    have hp : a * b < 18446744073709551616 := by
      calc a * b < m * m := Nat.mul_lt_mul'' ha hb
        _ ≤ 4294967296 * 4294967296 := Nat.mul_le_mul (by omega) (by omega)
    have o1 : IntKind.u64.wrap ((a : Int) * (b : Int)) = ((a * b : Nat) : Int) := by rw [← Int.natCast_mul]; exact wraps_u64 _ (by omega) (by omega)
    have r1 : ((a * b : Nat) : Int).tmod (m : Int) = ((a * b % m : Nat) : Int) := by rw [Int.tmod_eq_emod_of_nonneg (by omega)]; simp
    have hr := Nat.mod_lt (a * b) (show 0 < m by omega)
    obtain ⟨x, hx⟩ : ∃ x, a * b = x := ⟨_, rfl⟩
    rw [hx] at o1 r1 hr ⊢
    obtain ⟨y, hy⟩ : ∃ y, x % m = y := ⟨_, rfl⟩
    rw [hy] at r1 hr ⊢
    have d1 : decide ((m : Int) < 4294967296) = true := by rw [decide_eq_true_eq]; omega
    have hm32 := Lib.hid h32
    clear hx hy hp h32
    go_enter Tryd.func58, Tryd.ntmps58
    go_wp2
    go_ret
    exact ⟨rfl, rfl⟩
  · obtain ⟨T, hT⟩ : ∃ T, a * b % m = T := ⟨_, rfl⟩
    have hinit : Hid ((0 + a * b) % m = T) := by show _ = _; rw [Nat.zero_add]; exact hT
    rw [hT]
    have d1 : decide ((m : Int) < 4294967296) = false := by rw [decide_eq_false_iff_not]; omega
    clear hT h32
    go_enter Tryd.func58, Tryd.ntmps58
    go_wp2_with fail
    clear d1
    go_loop [0, 1, 7] (fun va vb vo => ∃ a2 b2 x2 : Nat, va = .int .u64 (a2 : Int) ∧ vb = .int .u64 (b2 : Int) ∧ vo = .int .u64 (x2 : Int) ∧ a2 < m ∧ x2 < m ∧ b2 < 18446744073709551616 ∧ Hid ((x2 + a2 * b2) % m = T))
      (fun _ vb _ => (intOf vb).toNat)
    case atStart => exact ⟨a, b, 0, rfl, rfl, rfl, ha, by omega, by omega, hinit⟩
    case round =>
      clear hinit ha hb
      obtain ⟨a2, b2, x2, rfl, rfl, rfl, ha2, hx2, hb2, hT⟩ := hrel
      by_cases hz : b2 = 0
      · subst hz
        have hxT : x2 = T := by
          have := hT.out
          rw [Nat.mul_zero, Nat.add_zero, Nat.mod_eq_of_lt hx2] at this; exact this
        clear hT
        subst hxT
        go_wp2_with fail
        go_ret
        exact ⟨rfl, rfl⟩
      · by_cases hodd : b2 % 2 = 1
        · have hst : ((x2 + a2) % m + (a2 + a2) % m * (b2 / 2)) % m = T := by rw [mul_stepm, mul_odd hodd]; exact hT.out
          have HST := Lib.hid hst
          clear hst hT
          have t1 : ((b2 : Int) % 2 == 1) = true := by rw [beq_iff_eq]; omega
          have l1 := Nat.mod_lt (x2 + a2) (show 0 < m by omega)
          have l2 := Nat.mod_lt (a2 + a2) (show 0 < m by omega)
          go_wp2_with fail
          refine (refAddMod_any x2 a2 m _ hx2 ha2 hm).mono ?_
          rintro y w1 ⟨rfl, rfl⟩
          go_wp2_with fail
          refine (refAddMod_any a2 a2 m _ ha2 ha2 hm).mono ?_
          rintro y w2 ⟨rfl, rfl⟩
          go_wp2_with fail
          exact ⟨⟨_, b2 / 2, _, rfl, by simp, rfl, l2, l1, by omega, HST.out⟩, by simp [intOf]; omega⟩
        · have hst : (x2 + (a2 + a2) % m * (b2 / 2)) % m = T := by rw [mul_stepm0, mul_even (by omega)]; exact hT.out
          have HST := Lib.hid hst
          clear hst hT
          have t1 : ((b2 : Int) % 2 == 1) = false := by rw [beq_eq_false_iff_ne]; omega
          have l2 := Nat.mod_lt (a2 + a2) (show 0 < m by omega)
          go_wp2_with fail
          refine (refAddMod_any a2 a2 m _ ha2 ha2 hm).mono ?_
          rintro y w2 ⟨rfl, rfl⟩
          go_wp2_with fail
          exact ⟨⟨_, b2 / 2, _, rfl, by simp, rfl, l2, hx2, by omega, HST.out⟩, by simp [intOf]; omega⟩
set_option maxHeartbeats 1000000 in
theorem refExpMod_any (a e m : Nat) (w : World) (h0 : 0 < m) (ha : a < m) (he : e < 18446744073709551616) (hm : m < 18446744073709551616) :
    Calls Tryd.prog 57 #[.int .u64 (a : Int), .int .u64 (e : Int), .int .u64 (m : Int)] w fun x w' => x = .returned (.int .u64 ((a ^ e % m : Nat) : Int)) ∧ w = w' := by
  have nz : ((m : Int) == 0) = false := by rw [beq_eq_false_iff_ne]; omega
  have nz2 : ¬ ((m : Int) = 0) := by omega
  have r1 : (1 : Int).tmod (m : Int) = ((1 % m : Nat) : Int) := by rw [Int.tmod_eq_emod_of_nonneg (by omega)]; simp
  have r2 : IntKind.u64.wrap ((1 % m : Nat) : Int) = ((1 % m : Nat) : Int) := wraps_u64 _ (by omega) (by have := Nat.mod_lt 1 h0; omega)
  have hx0 : 1 % m < m := Nat.mod_lt _ h0
  obtain ⟨x0, hx⟩ : ∃ x0, 1 % m = x0 := ⟨_, rfl⟩
  have hinit : (x0 * a ^ e) % m = a ^ e % m := by rw [← hx, Nat.mod_mul_mod, Nat.one_mul]
  rw [hx] at r1 r2 hx0
  have HI := Lib.hid hinit
  clear hinit hx
  obtain ⟨T, hT⟩ : ∃ T, a ^ e % m = T := ⟨_, rfl⟩
  rw [hT] at HI ⊢
  clear hT
  go_enter Tryd.func57, Tryd.ntmps57
  go_wp2_with fail
  go_loop [0, 1, 7] (fun va ve vx => ∃ a2 e2 x2 : Nat, va = .int .u64 (a2 : Int) ∧ ve = .int .u64 (e2 : Int) ∧ vx = .int .u64 (x2 : Int) ∧ a2 < m ∧ x2 < m ∧ e2 < 18446744073709551616 ∧ Hid ((x2 * a2 ^ e2) % m = T))
    (fun _ ve _ => (intOf ve).toNat)
  case atStart => exact ⟨a, e, x0, rfl, rfl, rfl, ha, hx0, he, HI⟩
  case round =>
    clear r1 r2 hx0 HI ha he nz
    obtain ⟨a2, e2, x2, rfl, rfl, rfl, ha2, hx2, he2, hT⟩ := hrel
    by_cases hz : e2 = 0
    · subst hz
      have hxT : x2 = T := by
        have := hT.out
        rw [Nat.pow_zero, Nat.mul_one, Nat.mod_eq_of_lt hx2] at this; exact this
      clear hT
      subst hxT
      go_wp2_with fail
      go_ret
      exact ⟨rfl, rfl⟩
    · by_cases hodd : e2 % 2 = 1
      · have hst : ((x2 * a2 % m) * (a2 * a2 % m) ^ (e2 / 2)) % m = T := by rw [pow_step, pow_odd hodd]; exact hT.out
        have HST := Lib.hid hst
        clear hst hT
        have t1 : ((e2 : Int) % 2 == 1) = true := by rw [beq_iff_eq]; omega
        have l1 := Nat.mod_lt (x2 * a2) h0
        have l2 := Nat.mod_lt (a2 * a2) h0
        go_wp2_with fail
        refine (refMulMod_any x2 a2 m _ hx2 ha2 hm).mono ?_
        rintro y w1 ⟨rfl, rfl⟩
        go_wp2_with fail
        refine (refMulMod_any a2 a2 m _ ha2 ha2 hm).mono ?_
        rintro y w2 ⟨rfl, rfl⟩
        go_wp2_with fail
        exact ⟨⟨_, e2 / 2, _, rfl, by simp, rfl, l2, l1, by omega, HST.out⟩, by simp [intOf]; omega⟩
      · have hst : (x2 * (a2 * a2 % m) ^ (e2 / 2)) % m = T := by rw [pow_step0, pow_even (by omega)]; exact hT.out
        have HST := Lib.hid hst
        clear hst hT
        have t1 : ((e2 : Int) % 2 == 1) = false := by rw [beq_eq_false_iff_ne]; omega
        have l2 := Nat.mod_lt (a2 * a2) h0
        go_wp2_with fail
        refine (refMulMod_any a2 a2 m _ ha2 ha2 hm).mono ?_
        rintro y w2 ⟨rfl, rfl⟩
        go_wp2_with fail
        exact ⟨⟨_, e2 / 2, _, rfl, by simp, rfl, l2, hx2, by omega, HST.out⟩, by simp [intOf]; omega⟩
namespace Num
/-- what the strong test of 64 bits answers: for any number, to a base below it -/
def strongU (n a : Nat) : Bool := if n < 3 ∨ n % 2 = 0 then n == 2 else if a = 0 then true else strongB n a
end Num
set_option maxHeartbeats 2000000 in
theorem refStrongU_any (n a : Nat) (w : World) (hn : n < 18446744073709551616) (ha : a < n) :
    Calls Tryd.prog 38 #[.int .u64 (n : Int), .int .u64 (a : Int)] w fun e w' => e = .returned (.bool (strongU n a)) ∧ w = w' := by
  by_cases h3 : n < 3 ∨ n % 2 = 0
  · have hr : strongU n a = (n == 2) := by unfold strongU; rw [if_pos h3]
    have HR := Lib.hid hr
    clear hr
    have fin : ((n : Int) == 2) = (n == 2) := by rw [Bool.eq_iff_iff, beq_iff_eq, beq_iff_eq]; omega
    have FIN := Lib.hid fin
    clear fin
    by_cases h4 : n < 3
    · go_enter Tryd.func38, Tryd.ntmps38
      go_wp2
      go_ret
      exact ⟨ret_bool (by rw [HR.out, FIN.out]), rfl⟩
    · have t1 : ((n : Int) % 2 == 0) = true := by rw [beq_iff_eq]; omega
      go_enter Tryd.func38, Tryd.ntmps38
      go_wp2
      go_ret
      exact ⟨ret_bool (by rw [HR.out, FIN.out]), rfl⟩
  · have t1 : ((n : Int) % 2 == 0) = false := by rw [beq_eq_false_iff_ne]; omega
    have h3n : 3 ≤ n := by omega
    have h2n : n % 2 = 1 := by omega
    by_cases h0 : a = 0
    · have hr : strongU n a = true := by unfold strongU; rw [if_neg h3, if_pos h0]
      subst h0
      have HR := Lib.hid hr
      clear hr h3
      go_enter Tryd.func38, Tryd.ntmps38
      go_wp2
      go_ret
      exact ⟨ret_bool HR.out.symm, rfl⟩
    · have hr : strongU n a = strongB n a := by unfold strongU; rw [if_neg h3, if_neg h0]
      have HR := Lib.hid hr
      have t2 : ((a : Int) == 0) = false := by rw [beq_eq_false_iff_ne]; omega
      have hlt := tz_lt (n := n - 1) (by omega) 64 (by omega)
      clear hr h3
      go_enter Tryd.func38, Tryd.ntmps38
      go_wp2_with fail
      go_loop [5, 6] (fun vd vs => ∃ d s : Nat, vd = .int .u64 (d : Int) ∧ vs = .int .i64 (s : Int) ∧ 0 < d ∧ d ≤ n - 1 ∧ s ≤ 64 ∧ Hid (tz d + s = tz (n - 1)) ∧ Hid (odp d = odp (n - 1))) (fun vd _ => (intOf vd).toNat)
      case atStart => exact ⟨n - 1, 0, by congr 1; omega, rfl, by omega, by omega, by omega, rfl, rfl⟩
      case round =>
        obtain ⟨d, s, rfl, rfl, hd0, hd1, hs, hts, hod⟩ := hrel
        by_cases hev : d % 2 = 0
        · have u1 : ((d : Int) % 2 == 0) = true := by rw [beq_iff_eq]; omega
          have h1 : tz (d / 2) + (s + 1) = tz (n - 1) := by rw [← hts.out, tz_even (by omega) hev]; omega
          have h2 : odp (d / 2) = odp (n - 1) := by rw [← odp_even (by omega) hev]; exact hod.out
          have h5 : s + 1 ≤ 64 := by omega
          have H1 := Lib.hid h1
          have H2 := Lib.hid h2
          clear h1 h2 hts hod
          go_wp2_with fail
          exact ⟨⟨d / 2, s + 1, by simp, by go_num, by omega, by omega, h5, H1.out, H2.out⟩, by simp [intOf]; omega⟩
        · have u1 : ((d : Int) % 2 == 0) = false := by rw [beq_eq_false_iff_ne]; omega
          have h1 : tz (n - 1) = s := by rw [← hts.out, tz_odd (by omega)]; omega
          have h2 : odp (n - 1) = d := by rw [← hod.out, odp_odd (by omega)]
          have HS := Lib.hid h1
          have HD := Lib.hid h2
          clear h1 h2 hts hod hlt
          go_wp2_with fail
          refine (refExpMod_any a d n _ (by omega) ha (by omega) hn).mono ?_
          rintro e w4 ⟨rfl, rfl⟩
          obtain ⟨x, hx⟩ : ∃ x, a ^ d % n = x := ⟨_, rfl⟩
          have hxn : x < n := by rw [← hx]; exact Nat.mod_lt _ (by omega)
          rw [hx]
          by_cases x1 : x = 1
          · have hs1 : strongB n a = true := strong_one (by rw [HD.out, hx, x1])
            have HS1 := Lib.hid hs1
            subst x1
            clear hx hs1
            go_wp2_with fail
            go_ret
            exact ⟨ret_bool (by rw [HR.out, HS1.out]), rfl⟩
          · have nx1 : a ^ odp (n - 1) % n ≠ 1 := by rw [HD.out, hx]; exact x1
            have NX1 := Lib.hid nx1
            have HX := Lib.hid hx
            have v1 : ((x : Int) == 1) = false := by rw [beq_eq_false_iff_ne]; omega
            clear nx1 hx
            go_wp2_with fail
            go_loop [7, 8] (fun vx vi => ∃ i xx : Nat, i ≤ s ∧ vi = .int .i64 i ∧ vx = .int .u64 (xx : Int) ∧ xx < n ∧ Hid (xx = a ^ (d * 2 ^ i) % n) ∧ Hid (∀ j, j < i → hit n a j = false)) (fun _ vi => s - (intOf vi).toNat)
            case atStart => exact ⟨0, x, by omega, rfl, rfl, hxn, by show _ = _; rw [← HX.out]; simp, fun j h => by omega⟩
            case round =>
              clear hxn HX v1 x1
              obtain ⟨i, xx, hi, rfl, rfl, hxx, hxe, hno⟩ := hrel
              by_cases his : i < s
              · by_cases hyy : xx = n - 1
                · have hs1 : strongB n a = true := strong_hit (i := i) (by rw [HS.out]; exact his) (by unfold hit; rw [HD.out, ← hxe.out, hyy]; simp)
                  have HS1 := Lib.hid hs1
                  have v2 : ((xx : Int) == (n : Int) - 1) = true := by rw [beq_iff_eq]; omega
                  clear hs1 hyy
                  go_wp2_with fail
                  go_ret
                  exact ⟨ret_bool (by rw [HR.out, HS1.out]), rfl⟩
                · have v2 : ((xx : Int) == (n : Int) - 1) = false := by rw [beq_eq_false_iff_ne]; omega
                  have hno4 : Hid (∀ j, j < i + 1 → hit n a j = false) := fun j hj => by
                    by_cases e : j = i
                    · subst e
                      unfold hit
                      rw [HD.out, ← hxe.out]
                      simpa using hyy
                    · exact hno.out j (by omega)
                  have hsq : xx * xx % n = a ^ (d * 2 ^ (i + 1)) % n := by rw [hxe.out, sq_next]
                  have hyn := Nat.mod_lt (xx * xx) (show 0 < n by omega)
                  have HSQ := Lib.hid hsq
                  clear hyy hsq
                  go_wp2_with fail
                  refine (refMulMod_any xx xx n _ hxx hxx hn).mono ?_
                  rintro e w6 ⟨rfl, rfl⟩
                  go_wp2_with fail
                  exact ⟨⟨i + 1, _, by omega, by go_num, rfl, hyn, HSQ.out, hno4⟩, by simp [intOf]; omega⟩
              · obtain rfl : i = s := by omega
                have hs1 : strongB n a = false := strong_no NX1.out (by rw [HS.out]; exact hno.out)
                have HS1 := Lib.hid hs1
                clear hs1
                go_wp2_with fail
                go_ret
                exact ⟨ret_bool (by rw [HR.out, HS1.out]), rfl⟩
end Go.Proofs.YtphlmgdcpdjlpaaDoor
