/- The law CertificateNumbers. -/
import Derived.Test.YtjminjliomffaaaDoorCeN
namespace Go.Proofs.YtjminjliomffaaaDoor
open Go.RowKit Num
set_option maxRecDepth 20000
set_option linter.unusedVariables false
namespace Num
/-- a number that a base divides is no strong probable prime to it -/
theorem strongB_div {n p : Nat} (hn : 3 ≤ n) (h2 : 2 ≤ p) (hd : p ∣ n) : strongB n p = false := by
  have hod : odp (n - 1) ≠ 0 := fun e => by
    have := (tz_spec (n - 1) (by omega)).2
    omega
  have key : ∀ k, k ≠ 0 → p ∣ p ^ k % n := fun k hk => by
    rw [Nat.dvd_mod_iff hd]
    obtain ⟨j, rfl⟩ : ∃ j, k = j + 1 := ⟨k - 1, by omega⟩
    rw [Nat.pow_succ]; exact Nat.dvd_mul_left _ _
  refine strong_no (fun h => ?_) fun i _ => ?_
  · have := key _ hod
    rw [h] at this
    have := Nat.le_of_dvd (by omega) this
    omega
  · unfold hit
    rw [beq_eq_false_iff_ne]
    intro h
    have h3 := key (odp (n - 1) * 2 ^ i) (Nat.mul_ne_zero hod (by have := Nat.two_pow_pos i; omega))
    rw [h] at h3
    have h4 : p ∣ n - (n - 1) := Nat.dvd_sub hd h3
    rw [show n - (n - 1) = 1 by omega] at h4
    have := Nat.le_of_dvd (by omega) h4
    omega
theorem probB_isB {n : Nat} (h : probB n = true) : isB n = true := by
  have hb := probB_big h
  unfold probB at h
  simp only [Bool.and_eq_true, List.all_eq_true] at h
  have hs : ∀ p ∈ bases, strongB n p = true := fun p hp => by
    have h1 := h.2 p hp
    have hp37 : 2 ≤ p ∧ p ≤ 37 := (by decide : ∀ p ∈ bases, 2 ≤ p ∧ p ≤ 37) p hp
    unfold strongV at h1
    rw [if_neg (by omega)] at h1
    by_cases hc : n < 2 ∨ n % 2 = 0
    · rw [if_pos hc] at h1; cases h1
    · rw [if_neg hc, if_neg (by rw [Nat.mod_eq_of_lt (by omega)]; omega)] at h1
      exact h1
  have hm : ∀ i, i < 12 → bases[i]! ∈ bases := fun i hi => by rw [getElem!_pos bases i hi]; exact List.getElem_mem _
  refine isB_yes (by omega) (fun j hj e => ?_) fun i hi => hs _ (hm i hi)
  have h1 := hs _ (hm j hj)
  have h2 : 2 ≤ bases[j]! := (by decide : ∀ j, j < 12 → 2 ≤ bases[j]!) j hj
  rw [strongB_div (by omega) h2 (Nat.dvd_of_mod_eq_zero e)] at h1
  cases h1
/-- a prime below the limit -/
theorem add_one {n : Nat} {e : Int} {S : List Stp} (h : AddL [n] [] e S) (ht : tinyB n = true) : e = 0 ∧ S = [tinyS n] := by
  cases h with
  | known h _ => rw [known0] at h; cases h
  | tiny _ _ h => cases h; exact ⟨rfl, rfl⟩
  | bad _ h => rw [ht] at h; cases h
  | few _ h => rw [ht] at h; cases h
  | sub _ h => rw [ht] at h; cases h
  | none _ h => rw [ht] at h; cases h
  | step _ h => rw [ht] at h; cases h
/-- a number that is no prime -/
theorem add_not {n : Nat} {e : Int} {S : List Stp} (h : AddL [n] [] e S) (ht : isB n = false) : e = 12 := by
  have h1 : tinyB n = false := by unfold tinyB; rw [ht, Bool.and_false]
  have h2 : probB n = false := by
    cases hp : probB n
    · rfl
    · rw [probB_isB hp] at ht; cases ht
  cases h with
  | known h _ => rw [known0] at h; cases h
  | tiny _ h _ => rw [h1] at h; cases h
  | bad => rfl
  | few _ _ h => rw [h2] at h; cases h
  | sub _ _ h => rw [h2] at h; cases h
  | none _ _ h => rw [h2] at h; cases h
  | step _ _ h => rw [h2] at h; cases h
theorem find_num {k : Nat} {E : Int} {L : List Stp} (hk : k < 524288) (h : FindR (enc k) E L) : (isB k = true ∧ k < 65536 → E = 0 ∧ L = [tinyS k]) ∧ (isB k = false → E = 12 ∧ L = []) := by
  have hv : validB (enc k) = true := valid_enc (Nat.lt_trans hk (by decide +kernel))
  rcases h with ⟨h, _⟩ | ⟨_, h0, h1, S, ha⟩ | ⟨_, h0, ha⟩
  · rw [hv] at h; cases h
  · rw [nv_enc] at ha
    refine ⟨fun ⟨hb, hl⟩ => ?_, fun hb => ⟨add_not ha hb, h1⟩⟩
    exact absurd (add_one ha (by unfold tinyB; rw [hb, decide_eq_true hl]; rfl)).1 h0
  · rw [nv_enc] at ha
    refine ⟨fun ⟨hb, hl⟩ => ⟨h0, (add_one ha (by unfold tinyB; rw [hb, decide_eq_true hl]; rfl)).2⟩, fun hb => ?_⟩
    have := add_not ha hb
    cases this
/-- a prime product is short -/
theorem prod_prime {n m : Nat} (hn : n ≤ 65535) (hm : 1 ≤ m) (h8 : m ≤ 8) (h : isB (n * m) = true) : n * m < 65536 := by
  have hlt : n * m < 4294967296 := by
    have : n * m ≤ 65535 * 8 := Nat.mul_le_mul hn h8
    omega
  have hp := isB_prime hlt h
  rcases hp.2 m (Nat.dvd_mul_left _ _) with h1 | h1
  · rw [h1]; omega
  · omega
end Num
theorem keepN {w0 w1 w2 : World} {B b o1 : Nat} {v1 v2 : Value} (h : w1.cell? ⟨B, 0, none⟩ = some v1 ∧ w1.cell? ⟨b, o1, none⟩ = some v2 ∧ Tab w1 ∧ Below w0.heap.size w0 w1) (bn : Below w1.heap.size w1 w2) :
    w2.cell? ⟨B, 0, none⟩ = some v1 ∧ w2.cell? ⟨b, o1, none⟩ = some v2 ∧ Tab w2 ∧ Below w0.heap.size w0 w2 :=
  ⟨cellB_keep h.1 bn, cellB_keep h.2.1 bn, h.2.2.1.below bn, h.2.2.2.trans (bn.mono h.2.2.2.size)⟩
theorem one_row {R : List StR} {k : Nat} (h : R.map stp = [tinyS k]) : ∃ fa fc, R = [(enc k, ⟨#[]⟩, fa, fc, [])] := by
  match R, h with
  | [(p, a, fa, fc, f)], h =>
    simp [stp, tinyS] at h
    obtain ⟨rfl, rfl, rfl⟩ := h
    exact ⟨fa, fc, rfl⟩
  | [], h => simp at h
  | _ :: _ :: _, h => simp at h
set_option maxHeartbeats 8000000 in
theorem numbers_walk (n m : Nat) (hn : n ≤ 65535) (hm : m ≤ 255) (w : World) (hT : Tab w) :
    Calls Tryd.prog 6 #[.int .u16 (n : Int), .int .u8 (m : Int)] w fun e w' => e = .returned (.bool true) ∧ Below w.heap.size w w' := by
  have HAw := Lib.hid (fun w h => awakeC w h)
  obtain ⟨r, hr⟩ : ∃ r, m % 8 = r := ⟨_, rfl⟩
  have hr8 : r < 8 := by omega
  have m1 : (m : Int).tmod 8 = (r : Int) := by rw [Int.tmod_eq_emod_of_nonneg (by omega)]; omega
  obtain ⟨k, hk⟩ : ∃ k, n * (r + 1) = k := ⟨_, rfl⟩
  have hk2 : k < 524288 := by
    have : n * (r + 1) ≤ 65535 * 8 := Nat.mul_le_mul hn (by omega)
    omega
  have o0 : IntKind.u64.wrap (n : Int) = (n : Int) := wraps_u64 _ (by omega) (by omega)
  have o1 : IntKind.u8.wrap ((r : Int) + 1) = (r : Int) + 1 := by rw [IntKind.wrap_u8]; omega
  have o2 : IntKind.u64.wrap ((r : Int) + 1) = (r : Int) + 1 := wraps_u64 _ (by omega) (by omega)
  have o3 : IntKind.u64.wrap ((n : Int) * ((r : Int) + 1)) = (k : Int) := by
    rw [show (n : Int) * ((r : Int) + 1) = (k : Int) by rw [← hk]; simp]
    exact wraps_u64 _ (by omega) (by omega)
  have hpp : isB k = true → k < 65536 := fun h => by
    rw [← hk] at h ⊢
    exact prod_prime hn (by omega) (by omega) h
  have HNu := Lib.hid (fun w => law7num_any k w (by omega))
  have HF := Lib.hid (fun w h => ceFind_any (enc k) w h)
  have HIP := (fun w => ceIsPrime_any k (by omega) w)
  have HK := Lib.hid hk2
  have HPP := Lib.hid hpp
  obtain ⟨V, hV⟩ : ∃ V, isB k = V := ⟨_, rfl⟩
  simp only [hV] at HIP
  have HIP := Lib.hid HIP
  have HV := Lib.hid hV
  clear hk hr hpp hV hk2
  go_enter Tryd.func6, Tryd.ntmps6
  go_wp2_with fail
  refine (HNu.out _).mono ?_; rintro e w1 ⟨rfl, b1⟩
  have hT1 := hT.below b1
  go_wp2_with fail
  refine (HF.out _ hT1).mono ?_
  rintro e w2 ⟨⟨a, q, c, R, E, rfl, hq, hCS, hr5, hfl, hFR⟩, b2'⟩
  have b2 := b1.trans (b2'.mono b1.size)
  have hT2 := hT1.below b2'
  have hS := CtB.new w2 (.slice a q c)
  have q1 := (Below.refl _ w2).alloc (Nat.le_refl _) (.cells #[.slice a q c] 33)
  have b3 := b2.trans (q1.mono b2.size)
  have HT3 := Lib.hid (hT2.below q1)
  have hfn := find_num HK.out hFR
  cases V
  · obtain ⟨rfl, hL⟩ := hfn.2 HV.out
    obtain rfl : q = 0 := by
      rw [← hq]
      have : (R.map stp).length = 0 := by rw [hL]; rfl
      simpa using this
    clear hfn hL hFR hCS hfl hr5 hT2 hT1 hT b1 b2 b2' q1 hq
    go_wp2_with fail
    generalize World.alloc _ _ = w3 at hS b3 HT3 ⊢
    refine (HIP.out _).mono ?_; rintro e w4 ⟨rfl, rfl⟩
    go_wp2_with fail
    refine (HAw.out _ HT3.out).mono ?_; rintro e w5 ⟨rfl, b5⟩
    have c0 := (hS.below b5 hS.lt).c0
    have b6 := b3.trans (b5.mono b3.size)
    go_wp2_with fail
    go_ret
    exact ⟨rfl, b6⟩
  · have hlt := HPP.out HV.out
    obtain ⟨rfl, hL⟩ := hfn.1 ⟨HV.out, hlt⟩
    obtain ⟨fa, fc, rfl⟩ := one_row hL
    obtain rfl : q = 1 := by rw [← hq]; rfl
    have hC2 := hCS.below q1 (Nat.le_refl _)
    obtain ⟨b, off, rfl, x0, _⟩ := hC2 0 (by simp)
    simp only [List.getElem_cons_zero, Nat.zero_mul, Nat.add_zero] at x0
    have d1 : decide ((k : Int) < 65536) = true := decide_eq_true (by omega)
    have d2 : (k : Int) < 65536 := by omega
    obtain ⟨K, hKK⟩ : ∃ K, enc k = K := ⟨_, rfl⟩
    rw [hKK] at x0 HNu
    have en : (K.toList == K.toList) = true := by simp
    clear hfn hL hFR hCS hC2 hfl hr5 hT2 hT1 hT b1 b2 b2' q1 hq hKK hlt
    go_wp2_with fail
    generalize World.alloc _ _ = w3 at hS b3 HT3 x0 ⊢
    generalize w2.heap.size = B at hS ⊢
    have c0 := hS.c0
    refine (HIP.out _).mono ?_; rintro e w4 ⟨rfl, rfl⟩
    go_wp2_with fail
    go_region_held3 (fun w' => w'.cell? ⟨B, 0, none⟩ = some (.slice (some ⟨b, off, none⟩) 1 c) ∧ w'.cell? ⟨b, off, none⟩ = some (.string K) ∧ Tab w' ∧ Below w4.heap.size w4 w')
      (first | exact ⟨c0, x0, HT3.out, (Below.refl _ w4).drew⟩ | assumption | (refine keepN ?_ bn; assumption))
      (first
        | (go_at_call 11; (with_reducible refine (HAw.out _ (by go_split_ands; assumption)).mono ?_); rintro e wn ⟨rfl, bn⟩)
        | (go_at_call 18; (with_reducible refine (HNu.out _).mono ?_); rintro e wn ⟨rfl, bn⟩))
    all_goals (go_split_ands; have hq := b3.trans ((by assumption : Below w4.heap.size w4 _).mono b3.size); go_wp2_with fail; go_ret; exact ⟨rfl, hq⟩)
theorem numbers_row (x y : Int) (wx : (Lit.int .u16 x).wf = true) (wy : (Lit.int .u8 y).wf = true) (w : World) (hT : Tab w) :
    Calls Tryd.prog 6 #[.int .u16 x, .int .u8 y] w fun e w' => e = .returned (.bool true) ∧ Below w.heap.size w w' := by
  have hx : 0 ≤ x ∧ x ≤ 65535 := by simpa [Lit.wf, IntKind.min, IntKind.max, IntKind.signed, IntKind.bits] using wx
  have hy : 0 ≤ y ∧ y ≤ 255 := by simpa [Lit.wf, IntKind.min, IntKind.max, IntKind.signed, IntKind.bits] using wy
  obtain ⟨n, rfl⟩ : ∃ n : Nat, x = (n : Int) := ⟨x.toNat, by omega⟩
  obtain ⟨m, rfl⟩ : ∃ m : Nat, y = (m : Int) := ⟨y.toNat, by omega⟩
  exact numbers_walk n m (by omega) (by omega) w hT
end Go.Proofs.YtjminjliomffaaaDoor
