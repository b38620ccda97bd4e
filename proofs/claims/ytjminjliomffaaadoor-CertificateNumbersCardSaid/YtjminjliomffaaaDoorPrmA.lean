/- Contracts of the package prime: mul, pow, bases; bits.TrailingZeros64. -/
import Derived.Test.YtjminjliomffaaaDoorPr
import Derived.Test.YtjminjliomffaaaDoorDiv64
import Derived.Test.YtjminjliomffaaaDoorNatC
import Derived.Laws.Bits64b
import Derived.Test.YtjminjliomffaaaDoorArrW
namespace Go.Proofs.YtjminjliomffaaaDoor
open Go.RowKit Num
set_option maxRecDepth 20000
set_option linter.unusedVariables false

namespace Num
theorem pow_step {x a e m : Nat} : (x * a % m * (a * a % m) ^ (e / 2)) % m = x * a * (a * a) ^ (e / 2) % m := by
  rw [Nat.mul_mod, Nat.mod_mod, ← Nat.pow_mod, ← Nat.mul_mod]
theorem pow_step0 {x a e m : Nat} : (x * (a * a % m) ^ (e / 2)) % m = x * (a * a) ^ (e / 2) % m := by
  rw [Nat.mul_mod, ← Nat.pow_mod, ← Nat.mul_mod]
theorem pow_odd {x a e : Nat} (h : e % 2 = 1) : x * a * (a * a) ^ (e / 2) = x * a ^ e := by
  have e1 : e = 1 + 2 * (e / 2) := by omega
  conv => rhs; rw [e1, Nat.pow_add, Nat.pow_one, Nat.pow_mul, Nat.pow_two]
  rw [Nat.mul_assoc]
theorem pow_even {x a e : Nat} (h : e % 2 = 0) : x * (a * a) ^ (e / 2) = x * a ^ e := by
  have e1 : e = 2 * (e / 2) := by omega
  conv => rhs; rw [e1, Nat.pow_mul, Nat.pow_two]
/-- a base -/
def bf (i : Nat) : Int := ((bases[i]! : Nat) : Int)
end Num
/-- mul: the product modulo m -/
theorem prmul_any (a b m : Nat) (w : World) (ha : a < m) (hb : b < m) (hm : m < 18446744073709551616) :
    Calls Tryd.prog 45 #[.int .u64 (a : Int), .int .u64 (b : Int), .int .u64 (m : Int)] w fun e w' => e = .returned (.int .u64 ((a * b % m : Nat) : Int)) ∧ Below w.heap.size w w' := by
  have hh : a * b / 18446744073709551616 < m := by
    rw [Nat.div_lt_iff_lt_mul (by omega)]
    calc a * b < m * m := Nat.mul_lt_mul'' ha hb
      _ ≤ m * 18446744073709551616 := Nat.mul_le_mul_left _ (by omega)
  have hd : ∀ w : World, Calls Tryd.prog 63 #[.int .u64 (hi64 a b), .int .u64 (lo64 a b), .int .u64 (m : Int)] w fun e w' => e = .returned (.tuple #[.int .u64 ((a * b / m : Nat) : Int), .int .u64 ((a * b % m : Nat) : Int)]) ∧ Below w.heap.size w w' := fun w => by
    have h := Div64_any (a * b / 18446744073709551616) (a * b % 18446744073709551616) m w hh (Nat.mod_lt _ (by omega)) hm
    rw [show a * b / 18446744073709551616 * 18446744073709551616 + a * b % 18446744073709551616 = a * b from by rw [Nat.mul_comm]; exact Nat.div_add_mod _ _] at h
    exact h
  have HD := Lib.hid hd
  clear hd hh
  obtain ⟨q, hq⟩ : ∃ q, a * b / m = q := ⟨_, rfl⟩
  obtain ⟨r, hr⟩ : ∃ r, a * b % m = r := ⟨_, rfl⟩
  rw [hq, hr] at HD
  rw [hr]
  clear hq hr
  go_enter Tryd.func45, Tryd.ntmps45
  go_wp2_with fail
  refine (Mul64_any a b (by omega) (by omega) _).mono ?_
  rintro e w1 ⟨rfl, rfl⟩
  go_wp2_with fail
  refine (HD.out _).mono ?_
  rintro e w1 ⟨rfl, hb1⟩
  go_wp2_with fail
  go_ret
  exact ⟨rfl, hb1⟩
set_option maxHeartbeats 1000000 in
theorem prpow_any (a e m : Nat) (w : World) (h0 : 0 < m) (ha : a < m) (he : e < 18446744073709551616) (hm : m < 18446744073709551616) :
    Calls Tryd.prog 44 #[.int .u64 (a : Int), .int .u64 (e : Int), .int .u64 (m : Int)] w fun x w' => x = .returned (.int .u64 ((a ^ e % m : Nat) : Int)) ∧ Below w.heap.size w w' := by
  have nz : ((m : Int) == 0) = false := by rw [beq_eq_false_iff_ne]; omega
  have nz2 : ¬ ((m : Int) = 0) := by omega
  have r1 : (1 : Int).tmod (m : Int) = ((1 % m : Nat) : Int) := by rw [Int.tmod_eq_emod_of_nonneg (by omega)]; simp
  have r2 : IntKind.u64.wrap ((1 % m : Nat) : Int) = ((1 % m : Nat) : Int) := wraps_u64 _ (by omega) (by have := Nat.mod_lt 1 h0; omega)
  have hx0 : 1 % m < m := Nat.mod_lt _ h0
  obtain ⟨x0, hx⟩ : ∃ x0, 1 % m = x0 := ⟨_, rfl⟩
  have hinit : (x0 * a ^ e) % m = a ^ e % m := by rw [← hx, Nat.mod_mul_mod, Nat.one_mul]
  rw [hx] at r1 r2 hx0
  have HI := Lib.hid hinit
  clear hinit hx
  obtain ⟨T, hT⟩ : ∃ T, a ^ e % m = T := ⟨_, rfl⟩
  rw [hT] at HI ⊢
  clear hT
  go_enter Tryd.func44, Tryd.ntmps44
  go_wp2_with fail
  go_loopw [0, 1, 7] (fun va ve vx wr => ∃ a2 e2 x2 : Nat, va = .int .u64 (a2 : Int) ∧ ve = .int .u64 (e2 : Int) ∧ vx = .int .u64 (x2 : Int) ∧ a2 < m ∧ x2 < m ∧ e2 < 18446744073709551616 ∧ Hid ((x2 * a2 ^ e2) % m = T) ∧ Below w.heap.size w wr)
    (fun _ ve _ _ => (intOf ve).toNat)
  case atStart => exact ⟨a, e, x0, rfl, rfl, rfl, ha, hx0, he, HI, Below.refl _ _⟩
  case round =>
    clear r1 r2 hx0 HI ha he nz
    obtain ⟨a2, e2, x2, rfl, rfl, rfl, ha2, hx2, he2, hT, hb⟩ := hrel
    have zb := hb.size
    by_cases hz : e2 = 0
    · subst hz
      have hxT : x2 = T := by
        have := hT.out
        rw [Nat.pow_zero, Nat.mul_one, Nat.mod_eq_of_lt hx2] at this; exact this
      clear hT
      subst hxT
      go_wp2_with fail
      go_ret
      exact ⟨rfl, hb⟩
    · by_cases hodd : e2 % 2 = 1
      · have hst : ((x2 * a2 % m) * (a2 * a2 % m) ^ (e2 / 2)) % m = T := by rw [pow_step, pow_odd hodd]; exact hT.out
        have HST := Lib.hid hst
        clear hst hT
        have t1 : ((e2 : Int) % 2 == 1) = true := by rw [beq_iff_eq]; omega
        have l1 := Nat.mod_lt (x2 * a2) h0
        have l2 := Nat.mod_lt (a2 * a2) h0
        go_wp2_with fail
        refine (prmul_any x2 a2 m _ hx2 ha2 hm).mono ?_
        rintro y w1 ⟨rfl, hb1⟩
        have hb1' := hb.trans (hb1.mono zb)
        have zc := hb1'.size
        go_wp2_with fail
        refine (prmul_any a2 a2 m _ ha2 ha2 hm).mono ?_
        rintro y w2 ⟨rfl, hb2⟩
        have hb2' := hb1'.trans (hb2.mono zc)
        go_wp2_with fail
        exact ⟨⟨_, e2 / 2, _, rfl, by simp, rfl, l2, by first | exact l1 | exact hx2, by omega, HST.out, hb2'⟩, by simp [intOf]; omega⟩
      · have hst : (x2 * (a2 * a2 % m) ^ (e2 / 2)) % m = T := by rw [pow_step0, pow_even (by omega)]; exact hT.out
        have HST := Lib.hid hst
        clear hst hT
        have t1 : ((e2 : Int) % 2 == 1) = false := by rw [beq_eq_false_iff_ne]; omega
        have l2 := Nat.mod_lt (a2 * a2) h0
        go_wp2_with fail
        refine (prmul_any a2 a2 m _ ha2 ha2 hm).mono ?_
        rintro y w2 ⟨rfl, hb2⟩
        have hb2' := hb.trans (hb2.mono zb)
        go_wp2_with fail
        exact ⟨⟨_, e2 / 2, _, rfl, by simp, rfl, l2, by first | exact l1 | exact hx2, by omega, HST.out, hb2'⟩, by simp [intOf]; omega⟩
theorem prbases_any (w : World) :
    Calls Tryd.prog 42 #[] w fun e w' => e = .returned (.agg (icells .u64 12 bf)) ∧ Below w.heap.size w w' := by
  go_enter Tryd.func42, Tryd.ntmps42
  go_wp2
  exact bodyPost_arr (f := bf) rfl w.heap.size rfl (t := 73) (Arr.made (by kernel_rfl)) 12 23 (by kernel_rfl) (by kernel_rfl) rfl ⟨rfl, (Below.refl _ _).alloc (Nat.le_refl _) _⟩
/-- the library's table lies in its variable -/
def Tab (w : World) : Prop := ∀ j, j < 64 → w.cell? ⟨0, j, none⟩ = some (.int .u8 (Lib.deBruijn64tab.getD j 0 : Nat))
theorem tz_key (x a : Nat) (hx : x < 18446744073709551616) (hx0 : x ≠ 0) (hlow : x &&& (18446744073709551616 - x) = a) :
    IntKind.u64.wrap (bits BinOp.and IntKind.u64 (x : Int) (IntKind.u64.wrap (-(x : Int))) * 285870213051353865) / 288230376151711744 = ((a * 285870213051353865 % 18446744073709551616 / 288230376151711744 : Nat) : Int) := by
  have e1 : IntKind.u64.wrap (-(x : Int)) = ((18446744073709551616 - x : Nat) : Int) := by rw [IntKind.wrap_u64]; omega
  rw [e1, bits_and_u64_nat x _ hx (by omega), hlow, IntKind.wrap_u64]
  omega
theorem tz64_core (x k idx : Nat) (w : World) (hx0 : ((x : Int) == 0) = false)
    (key : IntKind.u64.wrap (bits BinOp.and IntKind.u64 (x : Int) (IntKind.u64.wrap (-(x : Int))) * 285870213051353865) / 288230376151711744 = (idx : Int))
    (hi : idx < 64) (hk : k < 64) (hcell : w.cell? ⟨0, idx, none⟩ = some (.int .u8 k)) :
    Calls Tryd.prog 43 #[.int .u64 (x : Int)] w fun e w' => e = .returned (.int .i64 (k : Int)) ∧ w' = w := by
  go_enter Tryd.func43, Tryd.ntmps43
  go_wp2_with (simp only [key])
  go_ret
  exact ⟨rfl, rfl⟩
theorem tz64_any (x : Nat) (w : World) (hx : x < 18446744073709551616) (hx0 : x ≠ 0) (hT : Tab w) :
    Calls Tryd.prog 43 #[.int .u64 (x : Int)] w fun e w' => e = .returned (.int .i64 ((tz x : Nat) : Int)) ∧ w' = w := by
  obtain ⟨hlow, hk⟩ := Lib.lowest_bit 64 x hx0 hx
  obtain ⟨hi, htab⟩ := Lib.deBruijn64_at _ hk
  have hcell := hT _ hi
  rw [htab] at hcell
  rw [← ctz_tz x hx0 hx]
  exact tz64_core x _ _ w (by simp; omega) (tz_key x _ hx hx0 hlow) hi hk hcell
end Go.Proofs.YtjminjliomffaaaDoor
