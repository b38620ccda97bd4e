import Derived.Test.YtjminjliomffaaaDoorPdA
import Derived.Test.YtjminjliomffaaaDoorPdC
import Derived.Test.YtjminjliomffaaaDoorPdF
/- A number below 2^32 that passes the twelve strong tests is prime. No program in sight. -/
namespace Go.Proofs.YtjminjliomffaaaDoor
namespace Num
set_option maxRecDepth 20000
set_option linter.unusedVariables false
theorem big_all {x : Nat} (h1 : 1999 ≤ x) (h2 : x < 65536) : bigB x = true := by
  rcases Nat.lt_or_ge x 2300 with h | h
  · have := allB_spec big0 (x - 1999) (by omega); rwa [show x - 1999 + 1999 = x by omega] at this
  rcases Nat.lt_or_ge x 2700 with h | h
  · have := allB_spec big1 (x - 2300) (by omega); rwa [show x - 2300 + 2300 = x by omega] at this
  rcases Nat.lt_or_ge x 3300 with h | h
  · have := allB_spec big2 (x - 2700) (by omega); rwa [show x - 2700 + 2700 = x by omega] at this
  rcases Nat.lt_or_ge x 4200 with h | h
  · have := allB_spec big3 (x - 3300) (by omega); rwa [show x - 3300 + 3300 = x by omega] at this
  rcases Nat.lt_or_ge x 6000 with h | h
  · have := allB_spec big4 (x - 4200) (by omega); rwa [show x - 4200 + 4200 = x by omega] at this
  rcases Nat.lt_or_ge x 12000 with h | h
  · have := allB_spec big5 (x - 6000) (by omega); rwa [show x - 6000 + 6000 = x by omega] at this
  rcases Nat.lt_or_ge x 40000 with h | h
  · have := allB_spec big6 (x - 12000) (by omega); rwa [show x - 12000 + 12000 = x by omega] at this
  rcases Nat.lt_or_ge x 65536 with h | h
  · have := allB_spec big7 (x - 40000) (by omega); rwa [show x - 40000 + 40000 = x by omega] at this
  omega
theorem case_all {x : Nat} (h1 : 41 ≤ x) (h2 : x < 65536) : caseA x = true := by
  rcases Nat.lt_or_ge x 20000 with h | h
  · have := allB_spec case0 (x - 41) (by omega); rwa [show x - 41 + 41 = x by omega] at this
  rcases Nat.lt_or_ge x 30000 with h | h
  · have := allB_spec case1 (x - 20000) (by omega); rwa [show x - 20000 + 20000 = x by omega] at this
  rcases Nat.lt_or_ge x 38000 with h | h
  · have := allB_spec case2 (x - 30000) (by omega); rwa [show x - 30000 + 30000 = x by omega] at this
  rcases Nat.lt_or_ge x 45000 with h | h
  · have := allB_spec case3 (x - 38000) (by omega); rwa [show x - 38000 + 38000 = x by omega] at this
  rcases Nat.lt_or_ge x 51000 with h | h
  · have := allB_spec case4 (x - 45000) (by omega); rwa [show x - 45000 + 45000 = x by omega] at this
  rcases Nat.lt_or_ge x 56000 with h | h
  · have := allB_spec case5 (x - 51000) (by omega); rwa [show x - 51000 + 51000 = x by omega] at this
  rcases Nat.lt_or_ge x 61000 with h | h
  · have := allB_spec case6 (x - 56000) (by omega); rwa [show x - 56000 + 56000 = x by omega] at this
  rcases Nat.lt_or_ge x 65536 with h | h
  · have := allB_spec case7 (x - 61000) (by omega); rwa [show x - 61000 + 61000 = x by omega] at this
  omega
theorem sp_parts : (sp.all fun q => ((sp.drop 0).take 5).elem q || ((sp.drop 5).take 1).elem q || ((sp.drop 6).take 2).elem q || ((sp.drop 8).take 1).elem q || ((sp.drop 9).take 2).elem q || ((sp.drop 11).take 2).elem q || ((sp.drop 13).take 3).elem q || ((sp.drop 16).take 2).elem q || ((sp.drop 18).take 3).elem q || ((sp.drop 21).take 3).elem q || ((sp.drop 24).take 6).elem q || ((sp.drop 30).take 8).elem q || ((sp.drop 38).take 10).elem q || ((sp.drop 48).take 19).elem q || ((sp.drop 67).take 31).elem q || ((sp.drop 98).take 56).elem q || ((sp.drop 154).take 67).elem q || ((sp.drop 221).take 62).elem q || ((sp.drop 283).take 8).elem q) = true := by decide +kernel
theorem pairs_all {q : Nat} (h : q ∈ sp) : pairsL q sp = true := by
  have := List.all_eq_true.1 sp_parts q h
  simp only [Bool.or_eq_true, List.elem_iff] at this
  rcases this with ((((((((((((((((((h | h) | h) | h) | h) | h) | h) | h) | h) | h) | h) | h) | h) | h) | h) | h) | h) | h) | h)
  · exact List.all_eq_true.1 pairs0 q h
  · exact List.all_eq_true.1 pairs1 q h
  · exact List.all_eq_true.1 pairs2 q h
  · exact List.all_eq_true.1 pairs3 q h
  · exact List.all_eq_true.1 pairs4 q h
  · exact List.all_eq_true.1 pairs5 q h
  · exact List.all_eq_true.1 pairs6 q h
  · exact List.all_eq_true.1 pairs7 q h
  · exact List.all_eq_true.1 pairs8 q h
  · exact List.all_eq_true.1 pairs9 q h
  · exact List.all_eq_true.1 pairs10 q h
  · exact List.all_eq_true.1 pairs11 q h
  · exact List.all_eq_true.1 pairs12 q h
  · exact List.all_eq_true.1 pairs13 q h
  · exact List.all_eq_true.1 pairs14 q h
  · exact List.all_eq_true.1 pairs15 q h
  · exact List.all_eq_true.1 pairs16 q h
  · exact List.all_eq_true.1 pairs17 q h
  · exact List.all_eq_true.1 pairs18 q h
theorem pairsL_spec {p q : Nat} : ∀ {l : List Nat}, l.Pairwise (· < ·) → pairsL q l = true → p ∈ l → p < q → pairB p q = true
  | [], _, _, h, _ => by cases h
  | x :: l, hs, hp, h, hlt => by
    have hxq : x < q := by
      rcases List.mem_cons.1 h with e | e
      · omega
      · have := List.rel_of_pairwise_cons hs e; omega
    unfold pairsL at hp
    have e0 : Nat.ble q x = false := by
      cases hb : Nat.ble q x
      · rfl
      · have := Nat.le_of_ble_eq_true hb; omega
    rw [e0, cond_false, Bool.and_eq_true] at hp
    rcases List.mem_cons.1 h with e | e
    · subst e; exact hp.1
    · exact pairsL_spec (List.Pairwise.of_cons hs) hp.2 e hlt
set_option maxRecDepth 100000 in
theorem sp_sorted : sp.Pairwise (· < ·) := by decide +kernel
theorem sm_bases : ∀ p ∈ sm, p < 41 → p ∈ bases := by decide
theorem prime_pow {q : Nat} : ∀ n : Nat, 1 ≤ n → (∀ p, IsP p → p ∣ n → p = q) → ∃ k, n = q ^ k := by
  intro n
  induction n using Nat.strongRecOn with
  | _ n ih =>
    intro h1 h
    rcases Nat.lt_or_ge n 2 with h2 | h2
    · exact ⟨0, by simp; omega⟩
    · obtain ⟨p, hp, ⟨c, hc⟩, _⟩ := minFac h2
      have e := h p hp ⟨c, hc⟩
      subst e
      have hp2 := hp.1
      have hc0 : 1 ≤ c := by rcases Nat.eq_zero_or_pos c with h0 | h0; (· subst h0; simp at hc; omega); exact h0
      have hcn : c < n := by have h5 := Nat.mul_le_mul_right c hp2; rw [← hc] at h5; omega
      obtain ⟨k, hk⟩ := ih c hcn hc0 (fun r hr hd => h r hr (by rw [hc]; exact Nat.dvd_trans hd (Nat.dvd_mul_left _ _)))
      exact ⟨k + 1, by rw [hc, hk, Nat.pow_succ, Nat.mul_comm]⟩
theorem Psp.big41 {n : Nat} (h : Psp n) {p : Nat} (hp : IsP p) (hd : p ∣ n) : 41 ≤ p := by
  rcases Nat.lt_or_ge p 41 with h1 | h1
  · exact absurd hd (h.2.2.1 p (sm_bases p (mem_sm hp (by omega)) h1))
  · exact h1
theorem not_base {p : Nat} (hp : IsP p) (h : 41 ≤ p) : ∀ b ∈ bases, ¬ p ∣ b := fun b hb hd => by
  rcases (bases_prime b hb).2 p hd with e | e
  · omega
  · have : ∀ b ∈ bases, b ≤ 37 := by decide
    have := this b hb
    omega
theorem chk_all {q : Nat} (hq : IsP q) (h1 : 41 ≤ q) (h2 : q < 65536) : chkR q = true ∧ (1999 ≤ q → candB q = true) := by
  rcases Nat.lt_or_ge q 1999 with h3 | h3
  · exact ⟨List.all_eq_true.1 sp_chk q (mem_sp hq h1 h3), fun h => by omega⟩
  · have h := big_all h3 h2
    unfold bigB at h
    rw [fcB_eq] at h
    unfold bigF at h
    have hg : Nat.gcd q P251 = 1 := hq.gcd (fun hd => by
      rw [P251_eq] at hd
      obtain ⟨x, hx, hd2⟩ := dvd_lprod hq hd
      have : ∀ x ∈ sm, 0 < x ∧ x < 256 := by decide
      have h4 := this x hx
      have := Nat.le_of_dvd h4.1 hd2
      omega)
    rw [hg] at h
    have h' : (chkR q && candB q) = true := by simpa using h
    rw [Bool.and_eq_true] at h'
    exact ⟨h'.1, fun _ => h'.2⟩
theorem rej_or {n : Nat} (h : Psp n) (hr : (Nat.ble 4294967296 n || rej n) = true) : False := by
  rw [Bool.or_eq_true] at hr
  rcases hr with hr | hr
  · have := Nat.le_of_ble_eq_true hr; have := h.2.1; omega
  · exact h.rej hr
theorem psp_prime {n : Nat} (h : Psp n) : IsP n := by
  obtain ⟨p0, hp0, hd0, hor⟩ := minFac h.1
  rcases hor with hor | hor
  · exact hor
  exfalso
  have hn2 := h.1
  have hlt := h.2.1
  have hle0 := Nat.le_of_dvd (by omega) hd0
  obtain ⟨m, ⟨hm1, hm2, hm3⟩, _, hmin⟩ := least (fun m => m ≤ n ∧ IsP (n - m) ∧ n - m ∣ n) (n - p0) ⟨by omega, by rw [show n - (n - p0) = p0 by omega]; exact ⟨hp0, hd0⟩⟩
  obtain ⟨q, hqe⟩ : ∃ q, n - m = q := ⟨_, rfl⟩
  rw [hqe] at hm2 hm3
  have hmax : ∀ p, IsP p → p ∣ n → p ≤ q := fun p hp hd => by
    rcases Nat.lt_or_ge q p with h1 | h1
    · have hpn := Nat.le_of_dvd (by omega) hd
      exact absurd ⟨by omega, by rw [show n - (n - p) = p by omega]; exact ⟨hp, hd⟩⟩ (hmin (n - p) (by omega))
    · exact h1
  clear hmin hqe hm1
  have hq := hm2
  have h41 := h.big41 hq hm3
  obtain ⟨c, hc⟩ := hm3
  have hqn : q ∣ n := ⟨c, hc⟩
  have hnq : n ≠ q := fun e => by
    have h3 := hp0.1
    have h4 : p0 ∣ q := e ▸ hd0
    rcases hq.2 p0 h4 with h5 | h5
    · omega
    · subst h5
      rw [e] at hor
      have := Nat.mul_le_mul_left p0 h3
      omega
  have hc0 : c ≠ 0 := by rintro rfl; simp at hc; omega
  have hc1 : c ≠ 1 := by rintro rfl; simp at hc; exact hnq hc
  have hleft : ∀ b ∈ bases, b ^ (c - 1) % q = 1 := fun b hb => h.left hq hc (by omega) hb
  have hcn : c ∣ n := ⟨q, by rw [hc, Nat.mul_comm]⟩
  rcases Nat.lt_or_ge q 65536 with h6 | h6
  · obtain ⟨k1, k2⟩ := chk_all hq h41 h6
    obtain ⟨s, hs⟩ := chkR_spec hq h6 (not_base hq h41) k1 hleft
    have hs0 : s ≠ 0 := by rintro rfl; simp at hs; omega
    have hcs : c = 1 + s * (q - 1) := by rw [Nat.mul_comm]; omega
    rcases Nat.lt_or_ge q 1999 with h7 | h7
    · have hone : ∀ p, IsP p → p ∣ n → p ∈ sp ∧ p - 1 ∣ n - 1 := fun p hp hd => by
        have a1 := h.big41 hp hd
        have a2 := hmax p hp hd
        have a3 := chk_all hp a1 (by omega)
        refine ⟨mem_sp hp a1 (by omega), chkR_spec hp (by omega) (not_base hp a1) a3.1 fun b hb => ?_⟩
        rw [← Nat.mod_mod_of_dvd _ hd, h.fermat hb, Nat.mod_eq_of_lt (by omega)]
      by_cases hex : ∃ p, IsP p ∧ p ∣ n ∧ p ≠ q
      · obtain ⟨p, hp, hpn, hpq⟩ := hex
        have a2 := hmax p hp hpn
        have a1 := h.big41 hp hpn
        have hpB := pairsL_spec sp_sorted (pairs_all (hone q hq hqn).1) (hone p hp hpn).1 (by omega)
        have hpc : p ∣ c := by
          rcases hp.dvd_mul (show p ∣ q * c from hc ▸ hpn) with h' | h'
          · rcases hq.2 p h' with e | e <;> omega
          · exact h'
        obtain ⟨m', hm'⟩ := hpc
        have hn : n = p * q * m' := by rw [hc, hm', ← Nat.mul_assoc, Nat.mul_comm q p]
        have hL : Nat.lcm (p - 1) (q - 1) ∣ n - 1 := Nat.lcm_dvd (hone p hp hpn).2 (hone q hq hqn).2
        unfold pairB at hpB
        rw [fcB_eq, fcB_eq] at hpB
        have hLe : Nat.div ((p - 1) * (q - 1)) (Nat.gcd (p - 1) (q - 1)) = Nat.lcm (p - 1) (q - 1) := rfl
        rw [hLe] at hpB
        obtain ⟨L, hLL⟩ : ∃ L, Nat.lcm (p - 1) (q - 1) = L := ⟨_, rfl⟩
        have hL40 : 40 ≤ L := by
          rw [← hLL]
          have : p - 1 ∣ Nat.lcm (p - 1) (q - 1) := Nat.dvd_lcm_left _ _
          have := Nat.le_of_dvd (Nat.lcm_pos (by omega) (by omega)) this
          omega
        rw [hLL] at hL hpB
        obtain ⟨t, ht⟩ := hL
        obtain ⟨P, hP⟩ : ∃ P, p * q = P := ⟨_, rfl⟩
        rw [hP] at hn hpB
        have hP0 : 0 < P := by rw [← hP]; exact Nat.mul_pos (by omega) (by omega)
        have hcop : Nat.gcd P L = 1 := by
          have d1 : Nat.gcd P L ∣ n := Nat.dvd_trans (Nat.gcd_dvd_left _ _) ⟨m', hn⟩
          have d2 : Nat.gcd P L ∣ n - 1 := Nat.dvd_trans (Nat.gcd_dvd_right _ _) ⟨t, ht⟩
          have d3 := Nat.dvd_sub d1 d2
          rw [show n - (n - 1) = 1 by omega] at d3
          exact Nat.dvd_one.1 d3
        unfold pairF at hpB
        rw [hcop, fcB_eq] at hpB
        obtain ⟨u, hu⟩ : ∃ u, Nat.mod (invE 40 (Nat.mod P L) L) L = u := ⟨_, rfl⟩
        rw [hu] at hpB
        have hG : pairG P L u = true := by simpa using hpB
        unfold pairG at hG
        rw [Bool.and_eq_true, Bool.and_eq_true] at hG
        obtain ⟨g1, g2, g3⟩ := hG
        have g1 := Nat.le_of_ble_eq_true g1
        have g2 : u * P % L = 1 := Nat.eq_of_beq_eq_true g2
        have hmP : m' * P % L = 1 := by
          rw [Nat.mul_comm, ← hn, show n = 1 + L * t by omega, Nat.add_mul_mod_self_left, Nat.mod_eq_of_lt (by omega)]
        have hmu : m' % L = u := by
          have e1 : m' * (u * P) % L = m' % L := by rw [Nat.mul_mod, g2, Nat.mul_one, Nat.mod_mod]
          have e2 : m' * (u * P) % L = u % L := by rw [Nat.mul_left_comm, Nat.mul_mod, hmP, Nat.mul_one, Nat.mod_mod]
          rw [← e1, e2, Nat.mod_eq_of_lt (by omega)]
        have hm'' : m' = u + m' / L * L := by
          have := Nat.mod_add_div m' L
          rw [hmu, Nat.mul_comm] at this
          exact this.symm
        have hb : m' / L < Nat.div 4294967296 (P * L) + 1 := by
          have : m' / L ≤ 4294967296 / (P * L) := by
            rw [Nat.le_div_iff_mul_le (Nat.mul_pos hP0 (by omega))]
            have e3 : m' / L * L ≤ m' := Nat.div_mul_le_self _ _
            have e4 := Nat.mul_le_mul_left P e3
            rw [← hn] at e4
            have e5 : m' / L * (P * L) = P * (m' / L * L) := by rw [Nat.mul_left_comm]
            omega
          exact Nat.lt_succ_of_le this
        have hx := allB_spec g3 (m' / L) hb
        rw [fcB_eq, ← hm'', ← hn] at hx
        exact rej_or h hx
      · obtain ⟨k, hk⟩ := prime_pow (q := q) n (by omega) (fun p hp hd => Classical.byContradiction fun hne => hex ⟨p, hp, hd, hne⟩)
        have hpw := List.all_eq_true.1 sp_pow q (hone q hq hqn).1
        unfold powB at hpw
        rw [List.all_eq_true] at hpw
        have hk6 : k < 6 := by
          rcases Nat.lt_or_ge k 6 with h8 | h8
          · exact h8
          · have e1 : q ^ 6 ≤ q ^ k := Nat.pow_le_pow_right (by omega) h8
            have e2 : 41 ^ 6 ≤ q ^ 6 := Nat.pow_le_pow_left h41 6
            omega
        have hk0 : k ≠ 0 := by rintro rfl; simp at hk; omega
        have hk1 : k ≠ 1 := by rintro rfl; simp at hk; exact hnq hk
        have hx := hpw k (by simp; omega)
        rw [fcB_eq, show Nat.pow q k = n from hk.symm] at hx
        exact rej_or h hx
    · have hcB := k2 h7
      unfold candB at hcB
      have hb : s - 1 < Nat.div 4294967296 (q * (q - 1)) := by
        have : s ≤ 4294967296 / (q * (q - 1)) := by
          rw [Nat.le_div_iff_mul_le (Nat.mul_pos (by omega) (by omega))]
          have e5 : s * (q * (q - 1)) = q * (c - 1) := by rw [hs, Nat.mul_left_comm, Nat.mul_comm s]
          have e6 : q * (c - 1) ≤ n := by rw [hc]; exact Nat.mul_le_mul_left _ (by omega)
          omega
        exact Nat.lt_of_lt_of_le (by omega) this
      have hx := allB_spec hcB (s - 1) hb
      rw [show s - 1 + 1 = s by omega, show Nat.mul q (1 + s * (q - 1)) = n by show q * _ = n; rw [← hcs, ← hc]] at hx
      exact h.rej hx
  · have hq65 : 65537 ≤ q := by
      rcases Nat.lt_or_ge 65536 q with h8 | h8
      · exact h8
      · have : q = 65536 := by omega
        subst this
        rcases hq.2 2 (by decide) with e | e <;> omega
    have hc2 : c < 65536 := by
      rcases Nat.lt_or_ge c 65536 with h8 | h8
      · exact h8
      · have := Nat.mul_le_mul hq65 h8
        omega
    have hc41 : 41 ≤ c := by
      obtain ⟨p, hp, hpc, _⟩ := minFac (show 2 ≤ c by omega)
      have a1 := h.big41 hp (Nat.dvd_trans hpc hcn)
      have := Nat.le_of_dvd (by omega) hpc
      omega
    exact caseA_spec hq hq65 hc2 (Nat.Coprime.coprime_dvd_left hcn h.cop37) hleft (case_all hc41 hc2)
/-- below 2^32, the test is right -/
theorem isB_prime {n : Nat} (hn : n < 4294967296) (h : isB n = true) : IsP n := by
  have h2 : 2 ≤ n := by
    rcases Nat.lt_or_ge n 2 with h1 | h1
    · rw [isB_small h1] at h; cases h
    · exact h1
  have hget : ∀ j : Nat, j < 12 → bases[j]! ∈ bases := fun j hj => by rw [getElem!_pos bases j hj]; exact List.getElem_mem _
  by_cases hb : ∃ j : Nat, j < 12 ∧ n % bases[j]! = 0
  · obtain ⟨j, ⟨hj, hd⟩, _, hmin⟩ := least (fun j => j < 12 ∧ n % bases[j]! = 0) _ hb.choose_spec
    rw [isB_div h2 hj (fun k hk e => hmin k hk ⟨by omega, e⟩) hd, beq_iff_eq] at h
    rw [h]
    exact bases_prime _ (hget j hj)
  · have hno : ∀ j, j < 12 → n % bases[j]! ≠ 0 := fun j hj e => hb ⟨j, hj, e⟩
    rw [isB_strong h2 hno, List.all_eq_true] at h
    refine psp_prime ⟨h2, hn, fun b hbb hd => ?_, h⟩
    obtain ⟨j, hj, rfl⟩ := List.mem_iff_getElem.1 hbb
    refine hno j hj ?_
    rw [getElem!_pos bases j hj]
    exact Nat.mod_eq_zero_of_dvd hd
end Num
end Go.Proofs.YtjminjliomffaaaDoor

/- PrimeDivides, plain: what the trial division tells is what 'isB' tells, below 2^32. -/
namespace Go.Proofs.YtjminjliomffaaaDoor
set_option linter.unusedVariables false
namespace Num
/-- no divisor below d -/
def noDiv (n d : Nat) : Prop := ∀ e, 2 ≤ e → e < d → ¬ n % e = 0
theorem noDiv_two (n : Nat) : noDiv n 2 := fun e h1 h2 => by omega
theorem noDiv.step {n d : Nat} (h : noDiv n d) (hd : ¬ n % d = 0) : noDiv n (d + 1) := fun e h1 h2 => by
  rcases Nat.lt_or_ge e d with h3 | h3
  · exact h e h1 h3
  · obtain rfl : e = d := by omega
    exact hd
theorem noDiv.isP {n d : Nat} (h : noDiv n d) (h2 : 2 ≤ n) (hd : n < d * d) : IsP n := by
  refine ⟨h2, fun e he => ?_⟩
  obtain ⟨f, rfl⟩ := he
  rcases Nat.lt_or_ge e 2 with h3 | h3
  · have : e ≠ 0 := by intro h0; subst h0; simp at h2
    left; omega
  rcases Nat.lt_or_ge f 2 with h4 | h4
  · have : f ≠ 0 := by intro h0; subst h0; simp at h2
    right
    obtain rfl : f = 1 := by omega
    simp
  exfalso
  rcases Nat.lt_or_ge e d with h5 | h5
  · exact h e h3 h5 (Nat.mul_mod_right e f)
  rcases Nat.lt_or_ge f d with h6 | h6
  · exact h f h4 h6 (Nat.mul_mod_left e f)
  have := Nat.mul_le_mul h5 h6
  omega
theorem div_want {n d : Nat} (hn : n < 4294967296) (h : noDiv n d) (hd : n < d * d) : isB n = decide (2 ≤ n) := by
  by_cases h2 : 2 ≤ n
  · rw [decide_eq_true h2]
    exact (h.isP h2 hd).isB
  · rw [decide_eq_false h2]
    cases hb : isB n
    · rfl
    · exact absurd (isB_prime hn hb).1 h2
theorem div_not {n d : Nat} (hn : n < 4294967296) (h2 : 2 ≤ d) (hdd : d * d ≤ n) (hd : n % d = 0) : isB n = false := by
  cases hb : isB n
  · rfl
  · have hp := isB_prime hn hb
    rcases hp.2 d (Nat.dvd_of_mod_eq_zero hd) with e | e
    · omega
    · subst e
      have := Nat.mul_le_mul_right d h2
      omega
end Num
end Go.Proofs.YtjminjliomffaaaDoor
