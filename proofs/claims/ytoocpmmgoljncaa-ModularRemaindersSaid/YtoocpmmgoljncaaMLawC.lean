/- The law of layer 3 on Join: Remainders. -/
import Derived.Test.YtoocpmmgoljncaaMLaw
import Derived.BigQuiet
import Derived.Deep.QuietTactic
import Derived.OpenShut
namespace Go.Proofs.Ytoocpmmgoljncaa
open Go.RowKit Num
set_option maxRecDepth 20000
set_option linter.unusedVariables false
namespace Num
/-- a number with both remainders -/
def both (a m b n k : Nat) : Prop := k % m = a % m ∧ k % n = b % n
theorem both_compat {a m b n k : Nat} (h : both a m b n k) : a % Nat.gcd m n = b % Nat.gcd m n := by
  have h1 := congrArg (· % Nat.gcd m n) h.1
  have h2 := congrArg (· % Nat.gcd m n) h.2
  simp only [Nat.mod_mod_of_dvd _ (Nat.gcd_dvd_left m n), Nat.mod_mod_of_dvd _ (Nat.gcd_dvd_right m n)] at h1 h2
  rw [← h1, ← h2]
theorem lcm_eq (m n : Nat) : m * (n / Nat.gcd m n) = Nat.lcm m n := by
  unfold Nat.lcm
  rw [Nat.mul_div_assoc _ (Nat.gcd_dvd_right m n)]
theorem both_uniq {a m b n k x : Nat} (hx : x < m * (n / Nat.gcd m n)) (h1 : both a m b n k) (h2 : both a m b n x) : x ≤ k := by
  rcases Nat.lt_or_ge k x with h | h
  · exfalso
    have d1 : m ∣ x - k := Nat.dvd_of_mod_eq_zero (Nat.sub_mod_eq_zero_of_mod_eq (by rw [h1.1, h2.1]))
    have d2 : n ∣ x - k := Nat.dvd_of_mod_eq_zero (Nat.sub_mod_eq_zero_of_mod_eq (by rw [h1.2, h2.2]))
    have d3 := Nat.lcm_dvd d1 d2
    rw [← lcm_eq] at d3
    have := Nat.le_of_dvd (by omega) d3
    omega
  · exact h
theorem joinX_both {a m b n : Nat} (hm : 0 < m) (hn : 0 < n) (hg : a % Nat.gcd m n = b % Nat.gcd m n) : both a m b n (joinX a m b n) := by
  have hgp : 0 < Nat.gcd m n := Nat.gcd_pos_of_pos_left n hm
  have hkp : 0 < n / Nat.gcd m n := Nat.div_pos (Nat.le_of_dvd hn (Nat.gcd_dvd_right m n)) hgp
  obtain ⟨_, hinv⟩ := invm_ok hkp (gcd_quot (n := n) hm)
  refine ⟨by unfold joinX; rw [Nat.add_mul_mod_self_left, Nat.mod_mod], ?_⟩
  have dm := Nat.gcd_dvd_left m n
  have dn := Nat.gcd_dvd_right m n
  unfold joinX joinT joinD
  generalize Nat.gcd m n = g at *
  generalize hu : m / g = u at *
  generalize hk : n / g = k at *
  have em : m = g * u := by rw [← hu, Nat.mul_div_cancel' dm]
  have en : n = g * k := by rw [← hk, Nat.mul_div_cancel' dn]
  generalize invm u k = i at *
  obtain ⟨a', ha'⟩ : ∃ a', a % m = a' := ⟨_, rfl⟩
  have h1 : a' % g = a % g := by rw [← ha', Nat.mod_mod_of_dvd _ dm]
  rw [ha']
  obtain ⟨c, hc⟩ : ∃ c, a' % n = c := ⟨_, rfl⟩
  have hcn : c < n := by rw [← hc]; exact Nat.mod_lt _ hn
  have h2 : c % g = b % g := by rw [← hc, Nat.mod_mod_of_dvd _ dn, h1, hg]
  rw [hc]
  have h3 : (b + (n - c)) % g = 0 := by
    rw [← Nat.add_sub_assoc (Nat.le_of_lt hcn)]
    refine Nat.sub_mod_eq_zero_of_mod_eq ?_
    rw [h2, en, Nat.add_mul_mod_self_left]
  obtain ⟨d, hd⟩ : ∃ d, (b + (n - c)) % n = d := ⟨_, rfl⟩
  have h4 : d % g = 0 := by rw [← hd, Nat.mod_mod_of_dvd _ dn]; exact h3
  have hdn : d < n := by rw [← hd]; exact Nat.mod_lt _ hn
  rw [hd]
  obtain ⟨e, he⟩ : ∃ e, d / g = e := ⟨_, rfl⟩
  have ed : d = g * e := by rw [← he, Nat.mul_div_cancel' (Nat.dvd_of_mod_eq_zero h4)]
  rw [he]
  have h5 : u * (e * i % k) % k = e % k := by
    rw [Nat.mul_mod_mod, Nat.mul_left_comm, Nat.mul_mod, hinv, ← Nat.mul_mod, Nat.mul_one]
  have h6 : m * (e * i % k) % n = d := by
    rw [em, Nat.mul_assoc, en, Nat.mul_mod_mul_left, h5, ← Nat.mul_mod_mul_left, ← ed, ← en, Nat.mod_eq_of_lt hdn]
  rw [Nat.add_mod, h6, hc, ← hd, Nat.add_mod_mod]
  have h7 : c + (b + (n - c)) = b + n := by omega
  rw [h7, Nat.add_mod_right]
theorem mult_lcm {m n i : Nat} (hm : 0 < m) (hn : 0 < n) (hi : 0 < i) (h : m * i % n = 0) : n / Nat.gcd m n ≤ i := by
  have d3 := Nat.lcm_dvd (Nat.dvd_mul_right m i) (Nat.dvd_of_mod_eq_zero h)
  rw [← lcm_eq] at d3
  have := Nat.dvd_of_mul_dvd_mul_left hm d3
  exact Nat.le_of_dvd hi this
theorem lcm_mod (m n : Nat) : m * (n / Nat.gcd m n) % n = 0 := by
  rw [lcm_eq]
  exact Nat.mod_eq_zero_of_dvd (Nat.dvd_lcm_right m n)
end Num
theorem num_int' (n : Nat) (x : Int) (w : World) (hx : x = (n : Int)) (hn : n < 18446744073709551616) :
    Calls Try.prog 10 #[.int .u64 x] w fun e w' => e = .returned (.string (enc n)) ∧ Below w.heap.size w w' := by
  subst hx
  exact num_any n w hn
set_option maxHeartbeats 8000000 in
theorem rems_no (a b t m n : Nat) (w : World) (ha : a < 65536) (hb0 : b < 65536) (ht : t < 65536) (hm : m = t % 48 + 1) (hn : n = t / 64 % 48 + 1) (hg : a % Nat.gcd m n ≠ b % Nat.gcd m n) :
    Calls Try.prog 3 #[.int .u16 (a : Int), .int .u16 (b : Int), .int .u16 (t : Int)] w fun e w' => e = .returned (.bool true) ∧ Below w.heap.size w w' := by
  obtain ⟨m0, hm0⟩ : ∃ m0, t % 48 = m0 := ⟨_, rfl⟩
  obtain ⟨n0, hn0⟩ : ∃ n0, t / 64 % 48 = n0 := ⟨_, rfl⟩
  have q1 : (t : Int) % 48 = (m0 : Int) := by omega
  have q2 : (t : Int) / 64 % 48 = (n0 : Int) := by omega
  rw [hm0] at hm
  rw [hn0] at hn
  have l1 : m0 < 48 := by omega
  have l2 : n0 < 48 := by omega
  have HM := Lib.hid hm
  have HN := Lib.hid hn
  have HG := Lib.hid hg
  clear hm0 hn0 hm hn hg
  go_enter Try.func3, Try.ntmps3
  go_wp2_with fail
  have em : (m0 : Int) + 1 = (m : Int) := by have := HM.out; omega
  have en : (n0 : Int) + 1 = (n : Int) := by have := HN.out; omega
  rw [em, en]
  have m48 : m ≤ 48 := by have := HM.out; omega
  have n48 : n ≤ 48 := by have := HN.out; omega
  have mp : 0 < m := by have := HM.out; omega
  have np : 0 < n := by have := HN.out; omega
  clear q1 q2 em en l1 l2 HM HN
  refine (num_any a _ (by omega)).mono ?_; rintro e w1 ⟨rfl, b1⟩
  go_wp2_with fail
  refine (num_any m _ (by omega)).mono ?_; rintro e w2 ⟨rfl, b2⟩
  replace b1 := bbl b1 b2
  clear b2
  go_wp2_with fail
  refine (num_any b _ (by omega)).mono ?_; rintro e w2 ⟨rfl, b2⟩
  replace b1 := bbl b1 b2
  clear b2
  go_wp2_with fail
  refine (num_any n _ (by omega)).mono ?_; rintro e w2 ⟨rfl, b2⟩
  replace b1 := bbl b1 b2
  clear b2
  go_wp2_with fail
  refine (Join_no _ _ _ _ a m b n _ (sm8 (by omega)) (sm8 (by omega)) (sm8 (by omega)) (sm8 (by omega)) mp np HG.out).mono ?_; rintro e w2 ⟨rfl, b2⟩
  replace b1 := bbl b1 b2
  clear b2
  go_wp2_with fail
  obtain ⟨P, hP⟩ : ∃ P, m * n = P := ⟨_, rfl⟩
  have hPi : (m : Int) * (n : Int) = (P : Int) := by rw [← hP, Int.natCast_mul]
  have hPl : P ≤ 2304 := by rw [← hP]; exact Nat.mul_le_mul m48 n48
  have hPw : IntKind.u64.wrap ((m : Int) * (n : Int)) = (P : Int) := by rw [hPi]; exact wraps_u64 _ (by omega) (by omega)
  have wP : IntKind.u64.wrap (P : Int) = (P : Int) := wraps_u64 _ (by omega) (by omega)
  have nzm : ((m : Int) == 0) = false := by rw [beq_eq_false_iff_ne]; omega
  have nzn : ((n : Int) == 0) = false := by rw [beq_eq_false_iff_ne]; omega
  have nzm2 : ¬ (m = 0) := by omega
  have nzn2 : ¬ (n = 0) := by omega
  obtain ⟨ra, hra⟩ : ∃ r, a % m = r := ⟨_, rfl⟩
  obtain ⟨rb, hrb⟩ : ∃ r, b % n = r := ⟨_, rfl⟩
  have ta : ((a : Int)).tmod (m : Int) = (ra : Int) := by rw [Int.tmod_eq_emod_of_nonneg (by omega), ← hra]; simp
  have tb' : ((b : Int)).tmod (n : Int) = (rb : Int) := by rw [Int.tmod_eq_emod_of_nonneg (by omega), ← hrb]; simp
  have wa : IntKind.u64.wrap (a : Int) = (a : Int) := wraps_u64 _ (by omega) (by omega)
  have wb : IntKind.u64.wrap (b : Int) = (b : Int) := wraps_u64 _ (by omega) (by omega)
  have HRA := Lib.hid (And.intro hra hrb)
  have HP := Lib.hid hP
  clear hra hrb hP
  go_loopw [12] (fun v wr => ∃ k : Nat, k ≤ P ∧ v = .int .u64 (k : Int) ∧ Hid (∀ j, j < k → ¬ both a m b n j) ∧ Below w.heap.size w wr) (fun v _ => P - (intOf v).toNat)
  case atStart => exact ⟨0, by omega, rfl, fun j h => by omega, b1⟩
  case round =>
    clear b1
    obtain ⟨k, hk, rfl, hno, hb⟩ := hrel
    have wk : IntKind.u64.wrap (k : Int) = (k : Int) := wraps_u64 _ (by omega) (by omega)
    obtain ⟨km, hkm⟩ : ∃ r, k % m = r := ⟨_, rfl⟩
    obtain ⟨kn, hkn⟩ : ∃ r, k % n = r := ⟨_, rfl⟩
    have tkm : ((k : Int)).tmod (m : Int) = (km : Int) := by rw [Int.tmod_eq_emod_of_nonneg (by omega), ← hkm]; simp
    have tkn : ((k : Int)).tmod (n : Int) = (kn : Int) := by rw [Int.tmod_eq_emod_of_nonneg (by omega), ← hkn]; simp
    have hbk : both a m b n k ↔ km = ra ∧ kn = rb := by unfold both; rw [hkm, hkn, HRA.out.1, HRA.out.2]
    have HBK := Lib.hid hbk
    clear hkm hkn hbk
    by_cases hlt : k < P
    · have d1 : decide ((k : Int) < (P : Int)) = true := decide_eq_true (by omega)
      by_cases e1 : km = ra
      · by_cases e2 : kn = rb
        · have d2 : ((km : Int) != (ra : Int)) = false := by rw [bne_eq_false_iff_eq]; omega
          have d3 : ((kn : Int) != (rb : Int)) = false := by rw [bne_eq_false_iff_eq]; omega
          have hboth := HBK.out.2 ⟨e1, e2⟩
          exact absurd (both_compat hboth) HG.out
        · have hst : Hid (∀ j, j < k + 1 → ¬ both a m b n j) := fun j hj => by
            by_cases e : j = k
            · subst e; exact fun h => e2 (HBK.out.1 h).2
            · exact hno.out j (by omega)
          have d2 : ((km : Int) != (ra : Int)) = false := by rw [bne_eq_false_iff_eq]; omega
          have d3 : ((kn : Int) != (rb : Int)) = true := by rw [bne_iff_ne]; omega
          clear hno e1 e2
          go_wp2_with fail
          go_quiet (fail)
          go_wp2_with fail
          exact ⟨⟨k + 1, by omega, by go_num, hst, below_drewN hb _⟩, by simp [intOf]; omega⟩
      · have hst : Hid (∀ j, j < k + 1 → ¬ both a m b n j) := fun j hj => by
          by_cases e : j = k
          · subst e; exact fun h => e1 (HBK.out.1 h).1
          · exact hno.out j (by omega)
        have d2 : ((km : Int) != (ra : Int)) = true := by rw [bne_iff_ne]; omega
        clear hno e1
        go_wp2_with fail
        go_quiet (fail)
        go_wp2_with fail
        exact ⟨⟨k + 1, by omega, by go_num, hst, below_drewN hb _⟩, by simp [intOf]; omega⟩
    · obtain rfl : k = P := by omega
      have d1 : decide ((k : Int) < (k : Int)) = false := decide_eq_false (by omega)
      go_wp2_with fail
      go_quiet (fail)
      go_wp2_with fail
      refine (awakeM _).mono ?_; rintro e w3 ⟨rfl, b3⟩
      go_wp2_with fail
      go_ret
      exact ⟨rfl, bbl (below_drewN hb _) b3⟩
set_option maxHeartbeats 8000000 in
theorem rems_yes (a b t m n : Nat) (w : World) (ha : a < 65536) (hb0 : b < 65536) (ht : t < 65536) (hm : m = t % 48 + 1) (hn : n = t / 64 % 48 + 1) (hg : a % Nat.gcd m n = b % Nat.gcd m n) :
    Calls Try.prog 3 #[.int .u16 (a : Int), .int .u16 (b : Int), .int .u16 (t : Int)] w fun e w' => e = .returned (.bool true) ∧ Below w.heap.size w w' := by
  obtain ⟨m0, hm0⟩ : ∃ m0, t % 48 = m0 := ⟨_, rfl⟩
  obtain ⟨n0, hn0⟩ : ∃ n0, t / 64 % 48 = n0 := ⟨_, rfl⟩
  have q1 : (t : Int) % 48 = (m0 : Int) := by omega
  have q2 : (t : Int) / 64 % 48 = (n0 : Int) := by omega
  rw [hm0] at hm
  rw [hn0] at hn
  have l1 : m0 < 48 := by omega
  have l2 : n0 < 48 := by omega
  have HM := Lib.hid hm
  have HN := Lib.hid hn
  have HG := Lib.hid hg
  clear hm0 hn0 hm hn hg
  go_enter Try.func3, Try.ntmps3
  go_wp2_with fail
  have em : (m0 : Int) + 1 = (m : Int) := by have := HM.out; omega
  have en : (n0 : Int) + 1 = (n : Int) := by have := HN.out; omega
  rw [em, en]
  have m48 : m ≤ 48 := by have := HM.out; omega
  have n48 : n ≤ 48 := by have := HN.out; omega
  have mp : 0 < m := by have := HM.out; omega
  have np : 0 < n := by have := HN.out; omega
  clear q1 q2 em en l1 l2 HM HN
  refine (num_any a _ (by omega)).mono ?_; rintro e w1 ⟨rfl, b1⟩
  go_wp2_with fail
  refine (num_any m _ (by omega)).mono ?_; rintro e w2 ⟨rfl, b2⟩
  replace b1 := bbl b1 b2
  clear b2
  go_wp2_with fail
  refine (num_any b _ (by omega)).mono ?_; rintro e w2 ⟨rfl, b2⟩
  replace b1 := bbl b1 b2
  clear b2
  go_wp2_with fail
  refine (num_any n _ (by omega)).mono ?_; rintro e w2 ⟨rfl, b2⟩
  replace b1 := bbl b1 b2
  clear b2
  go_wp2_with fail
  have hq : n / Nat.gcd m n ≤ n := Nat.div_le_self _ _
  have hL : m * (n / Nat.gcd m n) ≤ 2304 := Nat.le_trans (Nat.mul_le_mul m48 hq) (by omega)
  have hJ1 := (joinX_lt (a := a) (b := b) mp np).2
  have hJ2 := joinX_both mp np HG.out
  have hJ3 : m * (n / Nat.gcd m n) ≤ m * n := Nat.mul_le_mul_left m hq
  have hlz := lcm_mod m n
  have hlu : ∀ i, 0 < i → m * i % n = 0 → n / Nat.gcd m n ≤ i := fun i hi h => mult_lcm mp np hi h
  have hjb : blen (m * (n / Nat.gcd m n)) ≤ 128 := blen_pow (k := 8) (by omega) (by omega)
  have hqp : 0 < n / Nat.gcd m n := Nat.div_pos (Nat.le_of_dvd np (Nat.gcd_dvd_right m n)) (Nat.gcd_pos_of_pos_left n mp)
  have huq : ∀ k, both a m b n k → joinX a m b n ≤ k := fun k hk => both_uniq hJ1 hk hJ2
  refine (Join_yes _ _ _ _ a m b n _ (sm8 (by omega)) (sm8 (by omega)) (sm8 (by omega)) (sm8 (by omega)) mp np HG.out hjb).mono ?_; rintro e w2 ⟨rfl, b2⟩
  replace b1 := bbl b1 b2
  clear b2 hjb HG
  generalize joinX a m b n = X at *
  generalize n / Nat.gcd m n = q at *
  have HJ := Lib.hid (And.intro hJ1 (And.intro hJ2 (And.intro hJ3 huq)))
  have HL := Lib.hid (And.intro hlz (And.intro hlu (And.intro hqp hL)))
  clear hJ1 hJ2 hJ3 huq hlz hlu hqp hL hq
  go_wp2_with fail
  obtain ⟨P, hP⟩ : ∃ P, m * n = P := ⟨_, rfl⟩
  have hPi : (m : Int) * (n : Int) = (P : Int) := by rw [← hP, Int.natCast_mul]
  have hPl : P ≤ 2304 := by rw [← hP]; exact Nat.mul_le_mul m48 n48
  have hPw : IntKind.u64.wrap ((m : Int) * (n : Int)) = (P : Int) := by rw [hPi]; exact wraps_u64 _ (by omega) (by omega)
  have wP : IntKind.u64.wrap (P : Int) = (P : Int) := wraps_u64 _ (by omega) (by omega)
  have nzm : ((m : Int) == 0) = false := by rw [beq_eq_false_iff_ne]; omega
  have nzn : ((n : Int) == 0) = false := by rw [beq_eq_false_iff_ne]; omega
  have nzm2 : ¬ (m = 0) := by omega
  have nzn2 : ¬ (n = 0) := by omega
  obtain ⟨ra, hra⟩ : ∃ r, a % m = r := ⟨_, rfl⟩
  obtain ⟨rb, hrb⟩ : ∃ r, b % n = r := ⟨_, rfl⟩
  have ta : ((a : Int)).tmod (m : Int) = (ra : Int) := by rw [Int.tmod_eq_emod_of_nonneg (by omega), ← hra]; simp
  have tb' : ((b : Int)).tmod (n : Int) = (rb : Int) := by rw [Int.tmod_eq_emod_of_nonneg (by omega), ← hrb]; simp
  have wa : IntKind.u64.wrap (a : Int) = (a : Int) := wraps_u64 _ (by omega) (by omega)
  have wb : IntKind.u64.wrap (b : Int) = (b : Int) := wraps_u64 _ (by omega) (by omega)
  have HRA := Lib.hid (And.intro hra hrb)
  have HP := Lib.hid hP
  clear hra hrb hP
  go_loopw [12] (fun v wr => ∃ k : Nat, k ≤ P ∧ v = .int .u64 (k : Int) ∧ Hid (∀ j, j < k → ¬ both a m b n j) ∧ Below w.heap.size w wr) (fun v _ => P - (intOf v).toNat)
  case atStart => exact ⟨0, by omega, rfl, fun j h => by omega, b1⟩
  case round =>
    clear b1
    obtain ⟨k, hk, rfl, hno, hb⟩ := hrel
    have wk : IntKind.u64.wrap (k : Int) = (k : Int) := wraps_u64 _ (by omega) (by omega)
    obtain ⟨km, hkm⟩ : ∃ r, k % m = r := ⟨_, rfl⟩
    obtain ⟨kn, hkn⟩ : ∃ r, k % n = r := ⟨_, rfl⟩
    have tkm : ((k : Int)).tmod (m : Int) = (km : Int) := by rw [Int.tmod_eq_emod_of_nonneg (by omega), ← hkm]; simp
    have tkn : ((k : Int)).tmod (n : Int) = (kn : Int) := by rw [Int.tmod_eq_emod_of_nonneg (by omega), ← hkn]; simp
    have hbk : both a m b n k ↔ km = ra ∧ kn = rb := by unfold both; rw [hkm, hkn, HRA.out.1, HRA.out.2]
    have HBK := Lib.hid hbk
    clear hkm hkn hbk
    by_cases hlt : k < P
    · have d1 : decide ((k : Int) < (P : Int)) = true := decide_eq_true (by omega)
      by_cases e1 : km = ra
      · by_cases e2 : kn = rb
        · have d2 : ((km : Int) != (ra : Int)) = false := by rw [bne_eq_false_iff_eq]; omega
          have d3 : ((kn : Int) != (rb : Int)) = false := by rw [bne_eq_false_iff_eq]; omega
          have hboth := HBK.out.2 ⟨e1, e2⟩
          have hkX : k = X := by
            have h1 := HJ.out.2.2.2 k hboth
            rcases Nat.lt_or_ge X k with h | h
            · exact absurd HJ.out.2.1 (hno.out X h)
            · omega
          have d4 : ((k : Int) == (P : Int)) = false := by rw [beq_eq_false_iff_ne]; omega
          have HKX := Lib.hid hkX
          clear hno hboth HBK hkX e1 e2
          go_wp2_with fail
          go_quiet (fail)
          have hb2 := below_drewN hb nq
          generalize wr.drewN nq = w3 at hb2 ⊢
          clear hb d1 d2 d3 ta tb' tkm tkn
          go_wp2_with fail
          clear hPi hPw wP d4
          go_loopw [13] (fun v wq => ∃ i : Nat, 1 ≤ i ∧ i ≤ q ∧ v = .int .u64 ((m * i : Nat) : Int) ∧ Hid (∀ j, 0 < j → j < i → m * j % n ≠ 0) ∧ Below w.heap.size w wq) (fun v _ => 2304 - (intOf v).toNat)
          case atStart => exact ⟨1, by omega, HL.out.2.2.1, by rw [Nat.mul_one], fun j h1 h2 => by omega, hb2⟩
          case round =>
            clear hb2
            obtain ⟨i, hi1, hi2, rfl, hni, hb⟩ := hrel
            have hmi : m * i ≤ 2304 := Nat.le_trans (Nat.mul_le_mul_left m hi2) HL.out.2.2.2
            obtain ⟨y, hy⟩ : ∃ y, m * i = y := ⟨_, rfl⟩
            obtain ⟨yr, hyr⟩ : ∃ r, y % n = r := ⟨_, rfl⟩
            rw [hy] at hmi ⊢
            have wy : IntKind.u64.wrap (y : Int) = (y : Int) := wraps_u64 _ (by omega) (by omega)
            have ty : ((y : Int)).tmod (n : Int) = (yr : Int) := by rw [Int.tmod_eq_emod_of_nonneg (by omega), ← hyr]; simp
            have ty2 : ((y : Int)) % (n : Int) = (yr : Int) := by rw [← hyr]; simp
            by_cases hz : yr = 0
            · have hiq : i = q := by
                have := HL.out.2.1 i hi1 (by rw [hy, hyr, hz])
                omega
              subst hz
              have e1 := enc_same' k
              have e2 := enc_same' y
              have hyq : m * q = y := by rw [← hiq]; exact hy
              rw [hyq]
              clear hyr hiq hy hni hyq
              go_wp2_with fail
              refine (awakeM _).mono ?_; rintro e w4 ⟨rfl, b4⟩
              replace hb := bbl hb b4
              rw [← HKX.out]
              go_wp2_with fail
              refine (num_any k _ (by omega)).mono ?_; rintro e w5 ⟨rfl, b5⟩
              replace hb := bbl hb b5
              go_wp2_with fail
              refine (num_any y _ (by omega)).mono ?_; rintro e w6 ⟨rfl, b6⟩
              replace hb := bbl hb b6
              go_wp2_with fail
              go_ret
              exact ⟨rfl, hb⟩
            · have hlt2 : i < q := by
                rcases Nat.lt_or_ge i q with h | h
                · exact h
                · exfalso
                  obtain rfl : i = q := by omega
                  exact hz (by rw [← hyr, ← hy]; exact HL.out.1)
              have hst : Hid (∀ j, 0 < j → j < i + 1 → m * j % n ≠ 0) := fun j h1 h2 => by
                by_cases e : j = i
                · subst e; rw [hy, hyr]; exact hz
                · exact hni.out j h1 (by omega)
              have d5 : ((yr : Int) == 0) = false := by rw [beq_eq_false_iff_ne]; omega
              have hys : m * (i + 1) = y + m := by rw [Nat.mul_add, hy, Nat.mul_one]
              have hyl : y + m ≤ 2304 := by rw [← hys]; exact Nat.le_trans (Nat.mul_le_mul_left m hlt2) HL.out.2.2.2
              have HYS := Lib.hid hys
              clear hyr hy hni hys
              go_wp2_with fail
              exact ⟨⟨i + 1, by omega, by omega, by rw [HYS.out]; simp, hst, hb⟩, by simp [intOf]; omega⟩
        · have hst : Hid (∀ j, j < k + 1 → ¬ both a m b n j) := fun j hj => by
            by_cases e : j = k
            · subst e; exact fun h => e2 (HBK.out.1 h).2
            · exact hno.out j (by omega)
          have d2 : ((km : Int) != (ra : Int)) = false := by rw [bne_eq_false_iff_eq]; omega
          have d3 : ((kn : Int) != (rb : Int)) = true := by rw [bne_iff_ne]; omega
          clear hno e1 e2
          go_wp2_with fail
          go_quiet (fail)
          go_wp2_with fail
          exact ⟨⟨k + 1, by omega, by go_num, hst, below_drewN hb _⟩, by simp [intOf]; omega⟩
      · have hst : Hid (∀ j, j < k + 1 → ¬ both a m b n j) := fun j hj => by
          by_cases e : j = k
          · subst e; exact fun h => e1 (HBK.out.1 h).1
          · exact hno.out j (by omega)
        have d2 : ((km : Int) != (ra : Int)) = true := by rw [bne_iff_ne]; omega
        clear hno e1
        go_wp2_with fail
        go_quiet (fail)
        go_wp2_with fail
        exact ⟨⟨k + 1, by omega, by go_num, hst, below_drewN hb _⟩, by simp [intOf]; omega⟩
    · obtain rfl : k = P := by omega
      have d1 : decide ((k : Int) < (k : Int)) = false := decide_eq_false (by omega)
      exact absurd HJ.out.2.1 (hno.out X (by have := HP.out; have := HJ.out.1; have := HJ.out.2.2.1; omega))
theorem rems_walk (x y z : Int) (w : World) (wx : (Lit.int .u16 x).wf = true) (wy : (Lit.int .u16 y).wf = true) (wz : (Lit.int .u16 z).wf = true) :
    Calls Try.prog 3 #[.int .u16 x, .int .u16 y, .int .u16 z] w fun e w' => e = .returned (.bool true) ∧ Below w.heap.size w w' := by
  obtain ⟨x1, x2⟩ := bounds_u16 wx
  obtain ⟨y1, y2⟩ := bounds_u16 wy
  obtain ⟨z1, z2⟩ := bounds_u16 wz
  obtain ⟨a, rfl⟩ : ∃ n : Nat, x = n := ⟨x.toNat, by omega⟩
  obtain ⟨b, rfl⟩ : ∃ n : Nat, y = n := ⟨y.toNat, by omega⟩
  obtain ⟨t, rfl⟩ : ∃ n : Nat, z = n := ⟨z.toNat, by omega⟩
  by_cases hg : a % Nat.gcd (t % 48 + 1) (t / 64 % 48 + 1) = b % Nat.gcd (t % 48 + 1) (t / 64 % 48 + 1)
  · exact rems_yes a b t _ _ w (by omega) (by omega) (by omega) rfl rfl hg
  · exact rems_no a b t _ _ w (by omega) (by omega) (by omega) rfl rfl hg
end Go.Proofs.Ytoocpmmgoljncaa
