/- Contracts of the package modular: reduced, plus, times of short numbers, Add, Sub. -/
import Derived.Test.YtdlbnioidfhhcaaGreatMod
namespace Go.Proofs.YtdlbnioidfhhcaaGreat
open Go.RowKit Num
set_option maxRecDepth 20000

theorem reduced_any (s t : ByteArray) (a m : Nat) (w : World) (hs : IsN s a) (ht : IsN t m) (h0 : 0 < m) :
    Calls Tryz.prog 73 #[.string s, .string t] w fun e w' => e = .returned (.string (enc (a % m))) ∧ Below w.heap.size w w' := by
  have HS := Lib.hid hs; clear hs
  have HT := Lib.hid ht; clear ht
  go_enter Tryz.func73, Tryz.ntmps73
  go_wp2_with (go_at_call 57; (with_reducible refine (DivMod_any _ _ _ _ _ HS.out HT.out h0).mono ?_); rintro e w' ⟨rfl, hb⟩)
  go_ret
  exact ⟨rfl, hb⟩

theorem plus_any (s t v : ByteArray) (a b m : Nat) (w : World) (hs : IsN s a) (ht : IsN t b) (hv : IsN v m) (ha : a < m) (hb : b < m) :
    Calls Tryz.prog 93 #[.string s, .string t, .string v] w fun e w' => e = .returned (.string (enc ((a + b) % m))) ∧ Below w.heap.size w w' := by
  have HS := Lib.hid hs; clear hs
  have HT := Lib.hid ht; clear ht
  have HV := Lib.hid hv; clear hv
  have hr : blen (m - b) ≤ 128 := Nat.le_trans (blen_mono (Nat.sub_le m b)) HV.out.le
  by_cases h : m - b ≤ a
  · have e1 : (a + b) % m = a - (m - b) := by rw [Nat.mod_eq_sub_mod (by omega), Nat.mod_eq_of_lt (by omega)]; omega
    have hc := (ncmp_ge a (m - b)).2 h
    have E1 := Lib.hid e1; clear e1
    go_enter Tryz.func93, Tryz.ntmps93
    go_wp2_with fail
    refine (Sub_any _ _ _ _ _ HV.out HT.out (by omega)).mono ?_; rintro e w1 ⟨rfl, hb1⟩
    go_wp2_with fail
    refine (Cmp_any _ _ _ _ _ HS.out (IsN.mk' hr)).mono ?_; rintro e w' ⟨rfl, rfl⟩
    go_wp2_with fail
    refine (Sub_any _ _ _ _ _ HS.out (IsN.mk' hr) h).mono ?_; rintro e w2 ⟨rfl, hb2⟩
    go_wp2_with fail
    go_ret
    exact ⟨ret_str (by rw [E1.out]), hb1.trans (hb2.mono hb1.size)⟩
  · have hab : a + b < m := by omega
    have e1 : (a + b) % m = a + b := Nat.mod_eq_of_lt hab
    have hc := (ncmp_lt a (m - b)).2 (by omega)
    have E1 := Lib.hid e1; clear e1
    have hl : blen (a + b) ≤ 128 := Nat.le_trans (blen_mono (Nat.le_of_lt hab)) HV.out.le
    have HL := Lib.hid (fitS_ok hl)
    go_enter Tryz.func93, Tryz.ntmps93
    go_wp2_with fail
    refine (Sub_any _ _ _ _ _ HV.out HT.out (by omega)).mono ?_; rintro e w1 ⟨rfl, hb1⟩
    go_wp2_with fail
    refine (Cmp_any _ _ _ _ _ HS.out (IsN.mk' hr)).mono ?_; rintro e w' ⟨rfl, rfl⟩
    go_wp2_with fail
    refine (Add_any _ _ _ _ _ HS.out HT.out).mono ?_; rintro e w2 ⟨rfl, hb2⟩
    go_wp2_with fail
    go_ret
    exact ⟨ret_str (by rw [E1.out, HL.out]), hb1.trans (hb2.mono hb1.size)⟩

set_option maxHeartbeats 1000000 in
theorem times_small (s t v : ByteArray) (a b m : Nat) (w : World) (hs : IsN s a) (ht : IsN t b) (hv : IsN v m) (h0 : 0 < m) (l1 : s.size ≤ 8) (l2 : t.size ≤ 8) (l3 : v.size ≤ 8) :
    Calls Tryz.prog 74 #[.string s, .string t, .string v] w fun e w' => e = .returned (.string (enc (a * b % m))) ∧ Below w.heap.size w w' := by
  have SA := Lib.hid (sm_short (show blen a ≤ 8 by rw [← hs.size]; exact l1))
  have SB := Lib.hid (sm_short (show blen b ≤ 8 by rw [← ht.size]; exact l2))
  have SM := Lib.hid (sm_short (show blen m ≤ 8 by rw [← hv.size]; exact l3))
  have hm : m < 18446744073709551616 := by have := (blen_le_iff m 8).1 (by rw [← hv.size]; exact l3); omega
  have HM := Lib.hid hm; clear hm
  have HS := Lib.hid hs; clear hs
  have HT := Lib.hid ht; clear ht
  have HV := Lib.hid hv; clear hv
  have nz : ((m : Int) == 0) = false := by rw [beq_eq_false_iff_ne]; omega
  have nz2 : ¬ ((m : Int) = 0) := by omega
  have m1 : a % m < m := Nat.mod_lt _ h0
  have m2 : b % m < m := Nat.mod_lt _ h0
  obtain ⟨x1, e1⟩ : ∃ x : Int, x = ((a % m : Nat) : Int) := ⟨_, rfl⟩
  obtain ⟨y1, f1⟩ : ∃ x : Int, x = ((b % m : Nat) : Int) := ⟨_, rfl⟩
  have r1 : (a : Int) % (m : Int) = x1 := by rw [e1]; simp
  have r2 : (a : Int).tmod (m : Int) = x1 := by rw [Int.tmod_eq_emod_of_nonneg (by omega)]; exact r1
  have r3 : (b : Int) % (m : Int) = y1 := by rw [f1]; simp
  have r4 : (b : Int).tmod (m : Int) = y1 := by rw [Int.tmod_eq_emod_of_nonneg (by omega)]; exact r3
  have hmul : ∀ w : World, Calls Tryz.prog 98 #[.int .u64 x1, .int .u64 y1] w fun e w' => e = .returned (.tuple #[.int .u64 (hi64 (a % m) (b % m)), .int .u64 (lo64 (a % m) (b % m))]) ∧ w' = w := by
    intro w
    rw [e1, f1]
    exact (Mul64_any _ _ (by have := HM.out; omega) (by have := HM.out; omega) w).mono fun _ _ h => ⟨h.1, h.2.symm⟩
  have hof : ∀ w : World, Calls Tryz.prog 38 #[.int .u64 (rem64 (a % m) (b % m) m)] w fun e w' => e = .returned (.string (enc (a * b % m))) ∧ Below w.heap.size w w' := by
    intro w
    have h := Of_any (a % m * (b % m) % m) w (by have := HM.out; have := Nat.mod_lt (a % m * (b % m)) h0; omega)
    rw [← Nat.mul_mod] at h
    rw [show rem64 (a % m) (b % m) m = ((a * b % m : Nat) : Int) from by unfold rem64; rw [← Nat.mul_mod]]
    exact h
  have HMUL := Lib.hid hmul; clear hmul
  have HOF := Lib.hid hof; clear hof
  clear e1 f1 m1 m2
  go_enter Tryz.func74, Tryz.ntmps74
  go_wp2_with fail
  refine (Small_any _ _ _ HS.out).mono ?_; rintro e w' ⟨rfl, rfl⟩
  go_wp2_with fail
  refine (Small_any _ _ _ HT.out).mono ?_; rintro e w' ⟨rfl, rfl⟩
  go_wp2_with fail
  refine (Small_any _ _ _ HV.out).mono ?_; rintro e w' ⟨rfl, rfl⟩
  rw [SA.out, SB.out, SM.out]
  go_wp2_with fail
  go_quiet ((go_at_call 98; exact Calls.quiet_of_same (HMUL.out _)))
  clear r1 r2 r3 r4
  have hb0 := below_drewN (Below.refl w.heap.size w) nq
  generalize w.drewN nq = w1 at hb0 ⊢
  go_wp2_with (go_at_call 99; (with_reducible refine (Rem64_any _ _ _ _ h0 HM.out).mono ?_); rintro e w2 ⟨rfl, hb1⟩)
  refine (HOF.out _).mono ?_; rintro e w3 ⟨rfl, hb2⟩
  go_wp2_with fail
  go_ret
  exact ⟨rfl, (hb0.trans (hb1.mono hb0.size)).trans (hb2.mono (Nat.le_trans hb0.size hb1.size))⟩
end Go.Proofs.YtdlbnioidfhhcaaGreat
