/- Contracts of the package natural: Bits, Bit. -/
import Derived.Test.YtdlbnioidfhhcaaGreatNatC
import Derived.Test.YtdlbnioidfhhcaaGreatDiv
import Derived.Test.YtdlbnioidfhhcaaGreatLen
import Derived.Test.YtdlbnioidfhhcaaGreatBitLen
import Derived.Test.YtdlbnioidfhhcaaGreatBl
import Derived.Test.YtdlbnioidfhhcaaGreatRfA
import Derived.BigQuiet
import Derived.Deep.QuietTactic
namespace Go.Proofs.YtdlbnioidfhhcaaGreat
open Go.RowKit Num
set_option maxRecDepth 20000
set_option linter.unusedVariables false

theorem Bits_any (s : ByteArray) (a : Nat) (w : World) (hs : IsN s a) :
    Calls Tryz.prog 54 #[.string s] w fun e w' => e = .returned (.int .i64 ((bl a : Nat) : Int)) ∧ w = w' := by
  have hsz := hs.size
  have hsm := hs.small
  rcases Nat.eq_zero_or_pos a with h0 | h0
  · subst h0
    have HS := Lib.hid hs
    obtain rfl : s = ⟨#[]⟩ := hs.eq
    clear hsz hs
    go_enter Tryz.func54, Tryz.ntmps54
    go_wp2_with (go_at_call 36; refine (Valid_yes _ _ _ HS.out).mono ?_; rintro e w' ⟨rfl, rfl⟩)
    go_ret
    exact ⟨rfl, rfl⟩
  · have hp : s.size ≠ 0 := by rw [hsz]; have := blen_eq_zero a; omega
    obtain ⟨e1, e2⟩ := toList_nonempty hp
    have hp2 : 0 < s.size := by omega
    have hb : bl a = 8 * (s.size - 1) + bl (s[0]'hp2).toNat := by
      have hc : Canon s := hs.canon
      have hn : nv s = a := hs.nv
      obtain ⟨d⟩ := s
      obtain ⟨l⟩ := d
      cases l with
      | nil => simp [ByteArray.size] at hp
      | cons x l =>
        have hx : x ≠ 0 := by simpa [Canon] using hc
        have := bl_cons x l hx
        have hn' : nvL (x :: l) = a := hn
        rw [hn'] at this
        rw [this]
        show _ = 8 * ((x :: l).length - 1) + bl x.toNat
        rfl
    have hx := (s[0]'hp2).toNat_lt
    have HB := Lib.hid hb
    have HS := Lib.hid hs
    clear hb hs hsz
    have hbl : Lib.bitLen (s[0]'hp2).toNat = bl (s[0]'hp2).toNat := bitLen_bl _ (by omega)
    have hb8 : bl (s[0]'hp2).toNat ≤ 8 := (bl_le_iff _ 8).2 (by omega)
    have HBL := Lib.hid hbl
    clear hbl
    go_enter Tryz.func54, Tryz.ntmps54
    go_wp2_with fail
    refine (Valid_yes _ _ _ HS.out).mono ?_; rintro e w' ⟨rfl, rfl⟩
    go_wp2_with fail
    refine (bits_Len8 _ _ (by omega) (by omega)).mono ?_; rintro e w' ⟨rfl, rfl⟩
    rw [Int.toNat_natCast, HBL.out]
    go_wp2_with fail
    go_ret
    exact ⟨ret_int (by rw [HB.out]; omega), rfl⟩
theorem i64_and1 (n : Int) : bits .and .i64 n 1 = n % 2 := by
  have h1 : (BitVec.ofInt 64 1).toNat = 2 ^ 1 - 1 := by decide
  have key : (BitVec.ofInt 64 n &&& BitVec.ofInt 64 1).toNat = (n % ((2 ^ 64 : Nat) : Int)).toNat % 2 ^ 1 := by
    rw [BitVec.toNat_and, BitVec.toNat_ofInt, h1, Nat.and_two_pow_sub_one_eq_mod]
  show IntKind.i64.wrap ((BitVec.ofInt 64 n &&& BitVec.ofInt 64 1).toNat : Nat) = n % 2
  rw [key, IntWalk.i64_in _ (by omega)]
  omega
theorem Bit_any (s : ByteArray) (a i : Nat) (w : World) (hs : IsN s a) (hi : i ≤ 1000000) :
    Calls Tryz.prog 56 #[.string s, .int .i64 (i : Int)] w fun e w' => e = .returned (.bool (tb a i)) ∧ w = w' := by
  have hm : (i : Int).tmod 8 = ((i % 8 : Nat) : Int) := by rw [Int.tmod_eq_emod_of_nonneg (by omega)]; simp
  have hq : (i : Int).tdiv 8 = ((i / 8 : Nat) : Int) := by rw [Int.tdiv_eq_ediv_of_nonneg (by omega)]; simp
  have hsm := hs.small
  by_cases hl : i / 8 < s.size
  · have hd := dg_bit (nv s) i
    have d0 := dg_nonneg (nv s) (i / 8)
    have d1 := dg_le (nv s) (i / 8)
    have hr : tb a i = (dg (nv s) (i / 8) / 2 ^ (i % 8) % 2 == 1) := by
      rw [hd, hs.nv]
      unfold tb
      rw [Bool.eq_iff_iff, decide_eq_true_eq, beq_iff_eq]
      omega
    have HR := Lib.hid hr
    have HS := Lib.hid hs
    have x1 : ((i : Int) / 8).toNat = i / 8 := by omega
    have x2 : ((i : Int) % 8).toNat = i % 8 := by omega
    clear hd hr hs
    go_enter Tryz.func56, Tryz.ntmps56
    go_wp2_with (first | (go_at_call 36; refine (Valid_yes _ _ _ HS.out).mono ?_; rintro e w' ⟨rfl, rfl⟩) | (go_at_call 83; refine (digit_any _ _ _ (by omega) (by omega)).mono ?_; rintro e w' ⟨rfl, rfl⟩))
    rw [i64_and1]
    go_ret
    exact ⟨ret_bool (by rw [HR.out]), rfl⟩
  · have hr : tb a i = false := by
      refine tb_bl a i ?_
      have : bl a ≤ 8 * s.size := by rw [bl_le_iff, Nat.pow_mul, hs.size]; exact lt_blen a
      omega
    have HR := Lib.hid hr
    have HS := Lib.hid hs
    clear hr hs
    go_enter Tryz.func56, Tryz.ntmps56
    go_wp2_with (go_at_call 36; refine (Valid_yes _ _ _ HS.out).mono ?_; rintro e w' ⟨rfl, rfl⟩)
    go_ret
    exact ⟨ret_bool HR.out.symm, rfl⟩
end Go.Proofs.YtdlbnioidfhhcaaGreat
