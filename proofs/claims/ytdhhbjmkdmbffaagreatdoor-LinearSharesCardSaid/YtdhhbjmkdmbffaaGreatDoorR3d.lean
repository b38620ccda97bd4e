/- The reference of layer 3: Inverse, raise, Exp, Power. -/
import Derived.Test.YtdhhbjmkdmbffaaGreatDoorR2b
import Derived.Test.YtdhhbjmkdmbffaaGreatDoorJac
import Derived.Test.YtdhhbjmkdmbffaaGreatDoorPow
namespace Go.Proofs.YtdhhbjmkdmbffaaGreatDoor
open Go.RowKit Num
set_option maxRecDepth 20000
set_option linter.unusedVariables false
end Go.Proofs.YtdhhbjmkdmbffaaGreatDoor
namespace Go.Proofs.YtdhhbjmkdmbffaaGreatDoor
open Go.RowKit Num
set_option maxRecDepth 20000
set_option linter.unusedVariables false
namespace Num
theorem raise_sq (a q m : Nat) : (a ^ q % m) * (a ^ q % m) % m = a ^ (2 * q) % m := by
  rw [← Nat.mul_mod, ← Nat.pow_add, Nat.two_mul]
theorem raise_one (a q m : Nat) : (a ^ (2 * q) % m) * a % m = a ^ (2 * q + 1) % m := by
  rw [Nat.pow_succ, Nat.mul_mod (a ^ (2 * q)) a m, Nat.mul_mod (a ^ (2 * q) % m) a m, Nat.mod_mod]
theorem raise_start (a e m : Nat) : 1 % m = a ^ (e / 2 ^ bl e) % m := by
  rw [Nat.div_eq_of_lt (lt_bl e), Nat.pow_zero]
theorem raise_bit0 {e j : Nat} (h : tb e j = false) : e / 2 ^ j = 2 * (e / 2 ^ (j + 1)) := by
  have h1 := half_bit e j
  rw [tb_val, h] at h1
  simpa using h1
theorem raise_bit1 {e j : Nat} (h : tb e j = true) : e / 2 ^ j = 2 * (e / 2 ^ (j + 1)) + 1 := by
  have h1 := half_bit e j
  rw [tb_val, h] at h1
  simpa using h1
theorem bl_1024 {e : Nat} (h : blen e ≤ 128) : bl e ≤ 1024 := by
  have h1 : bl e ≤ 8 * blen e := by rw [bl_le_iff, Nat.pow_mul]; exact lt_blen e
  omega
theorem wrap_down {k : Nat} (h : k ≤ 1024) : IntKind.i64.wrap ((k : Int) - 1) = (k : Int) - 1 := by rw [IntKind.wrap_i64]; omega
end Num
set_option maxHeartbeats 4000000 in
theorem refRaise_any (s t v : ByteArray) (a e m : Nat) (w : World) (hs : IsN s a) (ht : IsN t e) (hv : IsN v m) (h0 : 0 < m) (h64 : v.size ≤ 64) :
    Calls Tryz.prog 210 #[.string s, .string t, .string v] w fun r w' => r = .returned (.string (enc (a ^ e % m))) ∧ Below w.heap.size w w' := by
  have HS := Lib.hid hs
  have HT := Lib.hid ht
  have HV := Lib.hid hv
  have H0 := Lib.hid h0
  have H64 := Lib.hid h64
  have HI := Lib.hid (IsN.mk' (show blen 1 ≤ 128 by decide))
  have hbl := bl_1024 ht.le
  have HN : Hid (∀ x, IsN (enc (x % m)) (x % m)) := fun x => IsN.mk' (mod_le hv h0)
  have hst := raise_start a e m
  have HST := Lib.hid hst
  have wr1 := wrap_down hbl
  clear hs ht hv h0 h64 hst
  go_enter Tryz.func210, Tryz.ntmps210
  go_wp2_with fail
  refine (refOf_any 1 _ (by omega)).mono ?_; rintro r w1 ⟨rfl, b1⟩
  go_wp2_with fail
  refine (refMod_any _ _ _ _ _ HI.out HV.out H0.out).mono ?_; rw [HST.out]; rintro r w2 ⟨rfl, b2⟩
  replace b1 := bbl b1 b2
  clear b2
  go_wp2_with fail
  refine (refBits_any _ _ _ HT.out).mono ?_; rintro r w3 ⟨rfl, rfl⟩
  go_wp2_with fail
  go_loopw [7, 8] (fun vo vi wr => ∃ k : Nat, k ≤ bl e ∧ vo = .string (enc (a ^ (e / 2 ^ k) % m)) ∧ vi = .int .i64 ((k : Int) - 1) ∧ Below w.heap.size w wr) (fun _ vi _ => (intOf vi + 1).toNat)
  case atStart => exact ⟨bl e, Nat.le_refl _, rfl, rfl, b1⟩
  case round =>
    clear b1 HST wr1
    obtain ⟨k, hk, rfl, rfl, hb⟩ := hrel
    cases k with
    | zero =>
      go_wp2_with fail
      go_ret
      exact ⟨by simp, hb⟩
    | succ j =>
      have hj : ((j + 1 : Nat) : Int) - 1 = (j : Int) := by omega
      rw [hj]
      have wr2 := wrap_down (k := j) (by omega)
      have hj2 : j ≤ 1000000 := by omega
      have hj3 : (0 : Int) ≤ (j : Int) := by omega
      have HB := Lib.hid hb
      clear hb hj
      go_wp2_with fail
      refine (refTimesM_any _ _ _ _ _ _ _ (HN.out _) (HN.out _) HV.out H0.out H64.out).mono ?_; rw [raise_sq]; rintro r w4 ⟨rfl, b4⟩
      replace HB := Lib.hid (bbl HB.out b4)
      clear b4
      go_wp2_with fail
      refine (refBit_any _ _ _ _ HT.out hj2).mono ?_
      cases hbit : tb e j
      · rintro r w5 ⟨rfl, rfl⟩
        have hq := raise_bit0 hbit
        rw [← hq]
        clear hq
        go_wp2_with fail
        exact ⟨⟨j, by omega, rfl, rfl, HB.out⟩, by simp [intOf]⟩
      · rintro r w5 ⟨rfl, rfl⟩
        have hq := Lib.hid (raise_bit1 hbit)
        go_wp2_with fail
        refine (refTimesM_any _ _ _ _ _ _ _ (HN.out _) HS.out HV.out H0.out H64.out).mono ?_; rw [raise_one, ← hq.out]; rintro r w6 ⟨rfl, b6⟩
        replace HB := Lib.hid (bbl HB.out b6)
        clear b6 hq
        go_wp2_with fail
        exact ⟨⟨j, by omega, rfl, rfl, HB.out⟩, by simp [intOf]⟩
theorem refMExp_any (s t v : ByteArray) (w : World) (h64 : v.size ≤ 64) :
    Calls Tryz.prog 203 #[.string s, .string t, .string v] w fun e w' => e = .returned (.tuple #[.string (mo (chk [s, t] [v]) (nv s ^ nv t % nv v)), .int .i64 (chk [s, t] [v])]) ∧ Below w.heap.size w w' := by
  have hc := chk_cases [s, t] [v]
  by_cases h0 : chk [s, t] [v] = 0
  · obtain ⟨hs, ht, hv, hp⟩ := chk21_inv h0
    rw [h0, mo_zero]
    have HS := Lib.hid hs
    have HT := Lib.hid ht
    have HV := Lib.hid hv
    have HK := Lib.hid h0
    clear hc h0 hs ht hv
    go_enter Tryz.func203, Tryz.ntmps203
    go_wp2_with fail
    refine (refCheck3 w s t v).mono ?_; rintro e w1 ⟨rfl, hb1⟩
    rw [HK.out]
    go_wp2_with fail
    refine (refRaise_any _ _ _ _ _ _ _ HS.out HT.out HV.out hp h64).mono ?_; rintro e w2 ⟨rfl, hb2⟩
    replace hb1 := bbl hb1 hb2
    clear hb2
    go_wp2_with fail
    go_ret2
    exact ⟨rfl, hb1⟩
  · rw [mo_bad h0]
    have hk : chk [s, t] [v] = 3 ∨ chk [s, t] [v] = 11 := hc.resolve_left h0
    clear hc h0
    rcases hk with hk | hk
    all_goals
      rw [hk]
      have HK := Lib.hid hk
      clear hk
      go_enter Tryz.func203, Tryz.ntmps203
      go_wp2_with fail
      refine (refCheck3 w s t v).mono ?_; rintro e w1 ⟨rfl, hb1⟩
      rw [HK.out]
      go_wp2_with fail
      go_ret2
      exact ⟨rfl, hb1⟩
end Go.Proofs.YtdhhbjmkdmbffaaGreatDoor
namespace Go.Proofs.YtdhhbjmkdmbffaaGreatDoor
open Go.RowKit Num
set_option maxRecDepth 20000
set_option linter.unusedVariables false
theorem chk_inv1 {s v : ByteArray} (h : validB s = false) : chk [s] [v] = 3 := by unfold chk; simp [h]
theorem chk_inv2 {s v : ByteArray} (h : validB v = false) : chk [s] [v] = 3 := by unfold chk; simp [h]
theorem pwE_bad {s t v : ByteArray} {ng : Bool} (h : chk [s] [v] ≠ 0) (h2 : (validB t && !(ng && t.toList.isEmpty)) = true) : pwE s ng t v = chk [s] [v] := by
  have h3 : validB t = true ∧ (ng && t.toList.isEmpty) = false := by rw [Bool.and_eq_true, Bool.not_eq_true'] at h2; exact h2
  unfold pwE
  rw [if_pos h3, ivE_bad h]
  simp
theorem pwE_three {s t v : ByteArray} {ng : Bool} (h2 : (validB t && !(ng && t.toList.isEmpty)) = false) : pwE s ng t v = 3 := by
  unfold pwE
  rw [if_neg]
  rintro ⟨a, b⟩
  rw [a, b] at h2
  cases h2
end Go.Proofs.YtdhhbjmkdmbffaaGreatDoor
