/- The law of layer 3 on symbols. -/
import Derived.Test.YtoocpmmgoljncaaMLaw
import Derived.Test.YtoocpmmgoljncaaSymC
import Derived.BigQuiet
import Derived.Deep.QuietTactic
import Derived.OpenShut
namespace Go.Proofs.Ytoocpmmgoljncaa
open Go.RowKit Num
set_option maxRecDepth 20000
set_option linter.unusedVariables false
namespace Num
theorem lg_val (a p : Nat) : lg a p = 1 ∨ lg a p = 0 ∨ lg a p = -1 := by
  unfold lg
  split
  · exact .inr (.inl rfl)
  · split
    · exact .inl rfl
    · exact .inr (.inr rfl)
/-- a state of the trial division -/
structure TD (a m R p : Nat) (W : Int) (l : List Nat) : Prop where
  o : R % 2 = 1
  po : p % 2 = 1
  p3 : 3 ≤ p
  al : AllP l
  e : lpr l * R = m
  w : W = JJ a l
  v : W = 1 ∨ W = 0 ∨ W = -1
  d : ∀ d, 2 ≤ d → d ∣ R → p ≤ d
theorem TD.le {a m R p : Nat} {W : Int} {l : List Nat} (h : TD a m R p W l) (hm : 0 < m) : R ≤ m := by
  have h1 := h.e
  rcases Nat.eq_zero_or_pos (lpr l) with h0 | h0
  · rw [h0, Nat.zero_mul] at h1; omega
  · have := Nat.le_mul_of_pos_left R h0; omega
theorem TD.start {a m : Nat} (h : m % 2 = 1) : TD a m m 3 1 [] := by
  refine ⟨h, rfl, by omega, fun p hp => by simp at hp, by rw [lpr_nil, Nat.one_mul], rfl, .inl rfl, fun d h2 hd => ?_⟩
  rcases Nat.lt_or_ge d 3 with h3 | h3
  · obtain rfl : d = 2 := by omega
    have := Nat.mod_eq_zero_of_dvd hd; omega
  · exact h3
theorem TD.prime {a m R p : Nat} {W : Int} {l : List Nat} (h : TD a m R p W l) (hm : 0 < m) (hm4 : m < 4000) (hz : R % p = 0) : SP p := by
  have hd := Nat.dvd_of_mod_eq_zero hz
  have hR : 0 < R := by have := h.o; omega
  have hle := Nat.le_of_dvd hR hd
  have := h.le hm
  have h3 := h.p3
  refine ⟨⟨by omega, fun d hd2 => ?_⟩, h.po, by omega⟩
  have hdp := Nat.le_of_dvd (by omega) hd2
  have hd0 : d ≠ 0 := fun e => by rw [e, Nat.zero_dvd] at hd2; omega
  by_cases h1 : d = 1
  · exact .inl h1
  · have := h.d d (by omega) (Nat.dvd_trans hd2 hd)
    exact .inr (by omega)
theorem TD.div {a m R p : Nat} {W : Int} {l : List Nat} (h : TD a m R p W l) (hm : 0 < m) (hm4 : m < 4000) (hz : R % p = 0) : TD a m (R / p) p (W * lg a p) (p :: l) ∧ R / p < R := by
  have hp := h.prime hm hm4 hz
  have hd := Nat.dvd_of_mod_eq_zero hz
  have h3 := h.p3
  have hR : 0 < R := by have := h.o; omega
  have e1 : p * (R / p) = R := Nat.mul_div_cancel' hd
  refine ⟨⟨?_, h.po, h3, ?_, ?_, ?_, ?_, fun d h2 hd2 => h.d d h2 (Nat.dvd_trans hd2 ⟨p, by rw [Nat.mul_comm, e1]⟩)⟩, Nat.div_lt_self hR (by omega)⟩
  · have := h.o
    rw [← e1] at this
    rcases Nat.mod_two_eq_zero_or_one (R / p) with e | e
    · rw [Nat.mul_mod, e, Nat.mul_zero] at this; simp at this
    · exact e
  · intro q hq
    rcases List.mem_cons.1 hq with e | e
    · subst e; exact hp
    · exact h.al q e
  · rw [lpr_cons, Nat.mul_comm p, Nat.mul_assoc, e1, h.e]
  · rw [JJ_cons, ← h.w, Int.mul_comm]
  · rcases h.v with e | e | e <;> rcases lg_val a p with e2 | e2 | e2 <;> rw [e, e2] <;> decide
theorem TD.next {a m R p : Nat} {W : Int} {l : List Nat} (h : TD a m R p W l) (hz : R % p ≠ 0) : TD a m R (p + 2) W l := by
  refine ⟨h.o, by have := h.po; omega, by have := h.p3; omega, h.al, h.e, h.w, h.v, fun d h2 hd => ?_⟩
  have h1 := h.d d h2 hd
  have n1 : d ≠ p := fun e => hz (by rw [← e]; exact Nat.mod_eq_zero_of_dvd hd)
  have n2 : d % 2 = 1 := by
    obtain ⟨c, hc⟩ := hd
    have := h.o
    rcases Nat.mod_two_eq_zero_or_one d with e | e
    · rw [hc, Nat.mul_mod, e, Nat.zero_mul] at this; simp at this
    · exact e
  have := h.po
  omega
theorem TD.fin {a m p : Nat} {W : Int} {l : List Nat} (h : TD a m 1 p W l) (hm4 : m < 4000) (hm : 0 < m) : jac (a % m) m 1 = W := by
  have e := h.e
  rw [Nat.mul_one] at e
  have hlt := Nat.mod_lt a hm
  rw [jac_JJ (a % m) m 1 l (by omega) h.al e, Int.one_mul, JJ_mod (fun p hp => by rw [← e]; exact dvd_lpr p hp), h.w]
end Num
set_option maxHeartbeats 4000000 in
theorem legendre_any (a p : Nat) (w : World) (hp : SP p) (ha : a < 65536) :
    Calls Try.prog 14 #[.int .u64 (a : Int), .int .u64 (p : Int)] w fun e w' => e = .returned (.int .i64 (lg a p)) ∧ Below w.heap.size w w' := by
  have h3 := hp.ge
  have hl := hp.l
  have nz1 : ((p : Int) == 0) = false := by rw [beq_eq_false_iff_ne]; omega
  have nz2 : ¬ (p = 0) := by omega
  obtain ⟨r, hr⟩ : ∃ r, a % p = r := ⟨_, rfl⟩
  have ta : ((a : Int)).tmod (p : Int) = (r : Int) := by rw [Int.tmod_eq_emod_of_nonneg (by omega), ← hr]; simp
  have ta2 : ((a : Int)) % (p : Int) = (r : Int) := by rw [← hr]; simp
  have hrp : r < p := by rw [← hr]; exact Nat.mod_lt _ (by omega)
  have HR := Lib.hid hr
  clear hr hp
  by_cases h0 : r = 0
  · have hlg : lg a p = 0 := by unfold lg; rw [if_pos (by rw [HR.out, h0])]
    have HL := Lib.hid hlg
    subst h0
    clear hlg
    go_enter Try.func14, Try.ntmps14
    go_wp2_with fail
    go_ret
    exact ⟨ret_int HL.out.symm, Below.refl _ _⟩
  · have d0 : ((r : Int) == 0) = false := by rw [beq_eq_false_iff_ne]; omega
    have hne : a % p ≠ 0 := by rw [HR.out]; exact h0
    have HNE := Lib.hid hne
    clear hne h0
    go_enter Try.func14, Try.ntmps14
    go_wp2_with fail
    clear ta2 d0
    go_loopw [5] (fun v wr => ∃ x : Nat, 1 ≤ x ∧ x ≤ p ∧ v = .int .u64 (x : Int) ∧ Hid (∀ y, 1 ≤ y → y < x → y * y % p ≠ a % p) ∧ Below w.heap.size w wr) (fun v _ => p - (intOf v).toNat)
    case atStart => exact ⟨1, by omega, by omega, rfl, fun y h1 h2 => by omega, Below.refl _ _⟩
    case round =>
      obtain ⟨x, hx1, hxp, rfl, hno, hb⟩ := hrel
      by_cases hlt : x < p
      · have hxx : x * x < 16000000 := by
          have : x * x ≤ 3999 * 3999 := Nat.mul_le_mul (by omega) (by omega)
          omega
        obtain ⟨y, hy⟩ : ∃ y, x * x = y := ⟨_, rfl⟩
        obtain ⟨s, hs⟩ : ∃ s, y % p = s := ⟨_, rfl⟩
        rw [hy] at hxx
        have wy : IntKind.u64.wrap ((x : Int) * (x : Int)) = (y : Int) := by rw [← Int.natCast_mul, hy]; exact wraps_u64 _ (by omega) (by omega)
        have ty : ((y : Int)).tmod (p : Int) = (s : Int) := by rw [Int.tmod_eq_emod_of_nonneg (by omega), ← hs]; simp
        have d1 : decide ((x : Int) < (p : Int)) = true := decide_eq_true (by omega)
        by_cases he : s = r
        · have hlg : lg a p = 1 := by
            unfold lg
            rw [if_neg HNE.out, if_pos]
            rw [isq_iff]
            exact ⟨x, hx1, hlt, by rw [hy, hs, he, HR.out]⟩
          have HL := Lib.hid hlg
          have d2 : ((s : Int) == (r : Int)) = true := by rw [beq_iff_eq]; omega
          clear hlg hy hs hno he
          go_wp2_with fail
          go_quiet (fail)
          go_wp2_with fail
          go_ret
          exact ⟨ret_int HL.out.symm, below_drewN hb _⟩
        · have d2 : ((s : Int) == (r : Int)) = false := by rw [beq_eq_false_iff_ne]; omega
          have hst : Hid (∀ y, 1 ≤ y → y < x + 1 → y * y % p ≠ a % p) := fun z h1 h2 => by
            by_cases e : z = x
            · subst e; rw [hy, hs, HR.out]; exact he
            · exact hno.out z h1 (by omega)
          clear hy hs hno he
          go_wp2_with fail
          go_quiet (fail)
          go_wp2_with fail
          exact ⟨⟨x + 1, by omega, by omega, by go_num, hst, below_drewN hb _⟩, by simp [intOf]; omega⟩
      · obtain rfl : x = p := by omega
        have hlg : lg a x = -1 := by
          unfold lg
          rw [if_neg HNE.out, if_neg]
          rw [isq_iff]
          rintro ⟨y, h1, h2, h4⟩
          exact hno.out y h1 h2 h4
        have HL := Lib.hid hlg
        clear hlg hno
        go_wp2_with fail
        go_ret
        exact ⟨ret_int HL.out.symm, hb⟩
set_option maxHeartbeats 4000000 in
theorem symbols_ok (a t m : Nat) (w : World) (ha : a < 65536) (ht : t < 65536) (hm : m = t % 2000 * 2 + 1) :
    Calls Try.prog 5 #[.int .u16 (a : Int), .int .u16 (t : Int)] w fun e w' => e = .returned (.bool true) ∧ Below w.heap.size w w' := by
  obtain ⟨m0, hm0⟩ : ∃ m0, t % 2000 = m0 := ⟨_, rfl⟩
  have q1 : (t : Int) % 2000 = (m0 : Int) := by omega
  rw [hm0] at hm
  have l1 : m0 < 2000 := by omega
  have HM := Lib.hid hm
  have wa : IntKind.u64.wrap (a : Int) = (a : Int) := wraps_u64 _ (by omega) (by omega)
  clear hm0 hm
  go_enter Try.func5, Try.ntmps5
  go_wp2_with fail
  have em : (m0 : Int) * 2 + 1 = (m : Int) := by have := HM.out; omega
  rw [em]
  have mo' : m % 2 = 1 := by have := HM.out; omega
  have m4 : m < 4000 := by have := HM.out; omega
  have m0' : 0 < m := by omega
  clear em q1 l1 HM
  go_loopw [6, 7, 8] (fun u v x wr => ∃ (W : Int) (R p : Nat) (l : List Nat), u = .int .i64 W ∧ v = .int .u64 (R : Int) ∧ x = .int .u64 (p : Int) ∧ p < 4002 ∧ Hid (TD a m R p W l) ∧ Below w.heap.size w wr) (fun _ _ x _ => 4002 - (intOf x).toNat)
  case atStart => exact ⟨1, m, 3, [], rfl, rfl, rfl, by omega, TD.start mo', Below.refl _ _⟩
  case round =>
    obtain ⟨W, R, p, l, rfl, rfl, rfl, hp4, hT, hb⟩ := hrel
    have hRm := hT.out.le m0'
    have hp3 := hT.out.p3
    by_cases h1 : R = 1
    · subst h1
      have hfin := hT.out.fin m4 m0'
      have HF := Lib.hid hfin
      clear hfin
      clear hT
      have d1 : decide ((1 : Int) < ((1 : Nat) : Int)) = false := by decide
      go_wp2_with fail
      refine (num_any a _ (by omega)).mono ?_; rintro e w1 ⟨rfl, b1⟩
      replace hb := bbl hb b1
      go_wp2_with fail
      refine (num_any m _ (by omega)).mono ?_; rintro e w2 ⟨rfl, b2⟩
      replace hb := bbl hb b2
      go_wp2_with fail
      refine (Jacobi_odd _ _ a m _ (sm8 (by omega)) (sm8 (by omega)) mo').mono ?_; rw [HF.out]; rintro e w3 ⟨rfl, b3⟩
      replace hb := bbl hb b3
      go_wp2_with fail
      refine (awakeM _).mono ?_; rintro e w4 ⟨rfl, b4⟩
      replace hb := bbl hb b4
      go_wp2_with fail
      go_ret
      exact ⟨rfl, hb⟩
    · have hR0 : 0 < R := by have := hT.out.o; omega
      have hpR : p ≤ R := hT.out.d R (by omega) (Nat.dvd_refl R)
      have hp40 : p < 4000 := by omega
      have d1 : decide ((1 : Int) < (R : Int)) = true := decide_eq_true (by omega)
      go_wp2_with fail
      clear d1
      obtain ⟨wo, rfl⟩ : ∃ wo : World, wo = wr := ⟨_, rfl⟩
      go_loopw [6, 7] (fun u v wr => ∃ (W : Int) (R : Nat) (l : List Nat), u = .int .i64 W ∧ v = .int .u64 (R : Int) ∧ Hid (TD a m R p W l) ∧ Below w.heap.size w wr) (fun _ v _ => (intOf v).toNat)
      case atStart => exact ⟨W, R, l, rfl, rfl, hT, hb⟩
      case round =>
        clear hT hb hRm hR0 h1
        obtain ⟨W, S, l, rfl, rfl, hT, hb⟩ := hrel
        have hSm := hT.out.le m0'
        have nz1 : ((p : Int) == 0) = false := by rw [beq_eq_false_iff_ne]; omega
        have nz2 : ¬ (p = 0) := by omega
        obtain ⟨r, hr⟩ : ∃ r, S % p = r := ⟨_, rfl⟩
        have tr : ((S : Int)).tmod (p : Int) = (r : Int) := by rw [Int.tmod_eq_emod_of_nonneg (by omega), ← hr]; simp
        have tr2 : ((S : Int)) % (p : Int) = (r : Int) := by rw [← hr]; simp
        by_cases hz : r = 0
        · subst hz
          obtain ⟨hT2, hlt⟩ := hT.out.div m0' m4 hr
          have hsp := hT.out.prime m0' m4 hr
          have hv := hT2.v
          obtain ⟨q, hq⟩ : ∃ q, S / p = q := ⟨_, rfl⟩
          rw [hq] at hT2 hlt
          have tq : ((S : Int)).tdiv (p : Int) = (q : Int) := by rw [Int.tdiv_eq_ediv_of_nonneg (by omega), ← hq]; simp
          have tq2 : ((S : Int)) / (p : Int) = (q : Int) := by rw [← hq]; simp
          obtain ⟨L, hL⟩ : ∃ L, lg a p = L := ⟨_, rfl⟩
          rw [hL] at hT2 hv
          have hw : IntKind.i64.wrap (W * L) = W * L := by rcases hv with e | e | e <;> rw [e] <;> decide
          obtain ⟨V, hV⟩ : ∃ V, W * L = V := ⟨_, rfl⟩
          rw [hV] at hT2 hw
          have hVV := hV
          have HT2 := Lib.hid hT2
          have HL := Lib.hid hL
          have HSP := Lib.hid hsp
          clear hT hT2 hL hr hv hq hsp
          go_wp2_with fail
          refine (legendre_any a p _ HSP.out ha).mono ?_; rw [HL.out]; rintro e w1 ⟨rfl, b1⟩
          replace hb := bbl hb b1
          go_wp2_with fail
          exact ⟨⟨V, q, p :: l, by first | rfl | simp [hw, hV], rfl, HT2.out, hb⟩, by simp [intOf]; omega⟩
        · have d2 : ((r : Int) == 0) = false := by rw [beq_eq_false_iff_ne]; omega
          have hT2 := hT.out.next (by rw [hr]; exact hz)
          have HT2 := Lib.hid hT2
          clear hT hT2 hr hz
          go_wp2_with fail
          exact ⟨⟨W, S, p + 2, l, rfl, rfl, by go_num, by omega, HT2.out, hb⟩, by simp [intOf]; omega⟩
theorem symbols_walk (x y : Int) (w : World) (wx : (Lit.int .u16 x).wf = true) (wy : (Lit.int .u16 y).wf = true) :
    Calls Try.prog 5 #[.int .u16 x, .int .u16 y] w fun e w' => e = .returned (.bool true) ∧ Below w.heap.size w w' := by
  obtain ⟨x1, x2⟩ := bounds_u16 wx
  obtain ⟨y1, y2⟩ := bounds_u16 wy
  obtain ⟨a, rfl⟩ : ∃ n : Nat, x = n := ⟨x.toNat, by omega⟩
  obtain ⟨b, rfl⟩ : ∃ n : Nat, y = n := ⟨y.toNat, by omega⟩
  exact symbols_ok a b _ w (by omega) (by omega) rfl
end Go.Proofs.Ytoocpmmgoljncaa
