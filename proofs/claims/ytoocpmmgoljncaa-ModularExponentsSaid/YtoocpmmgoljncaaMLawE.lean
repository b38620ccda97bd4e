/- The law of layer 3 on exponents. -/
import Derived.Test.YtoocpmmgoljncaaMLaw
import Derived.Test.YtoocpmmgoljncaaPow
import Derived.Deep.RegionWith
namespace Go.Proofs.Ytoocpmmgoljncaa
open Go.RowKit Num
set_option maxRecDepth 20000
set_option linter.unusedVariables false
theorem refMake_any (b : Bool) (s : ByteArray) (w : World) :
    Calls Try.prog 48 #[.bool b, .string s] w fun e w' => e = .returned (.agg #[.bool (b && !s.toList.isEmpty), .string s]) ∧ Below w.heap.size w w' := by
  have r1 := RBox.new w
  have b1 := (Below.refl _ w).alloc (Nat.le_refl _) (.cells #[.bool false, .string ⟨#[]⟩] 39)
  obtain ⟨w1, hw1⟩ : ∃ w1, w.alloc (.cells #[.bool false, .string ⟨#[]⟩] 39) = w1 := ⟨_, rfl⟩
  rw [hw1] at r1 b1
  have f0 := r1.f0
  have f1 := r1.f1
  have c0 := r1.c0
  have c1 := r1.c1
  cases b
  · go_enter Try.func48, Try.ntmps48
    go_wp2_with fail
    refine bodyPost_int rfl rfl (put2 r1) rfl ⟨rfl, ?_⟩
    exact (b1.setCell (p := ⟨w.heap.size, 0, none⟩) (Nat.le_refl _) _).setCell (p := ⟨w.heap.size, 1, none⟩) (Nat.le_refl _) _
  · go_enter Try.func48, Try.ntmps48
    go_wp2_with fail
    refine bodyPost_int rfl rfl (put2 r1) rfl ⟨rfl, ?_⟩
    exact (b1.setCell (p := ⟨w.heap.size, 0, none⟩) (Nat.le_refl _) _).setCell (p := ⟨w.heap.size, 1, none⟩) (Nat.le_refl _) _
/-- the opposite of a number -/
theorem refOfNeg_any (n : Nat) (x : Int) (w : World) (hx : x = -(n : Int)) (hn : n < 65536) :
    Calls Try.prog 26 #[.int .i64 x] w fun e w' => e = .returned (.agg #[.bool (decide (0 < n)), .string (enc n)]) ∧ Below w.heap.size w w' := by
  rcases Nat.eq_zero_or_pos n with h0 | h0
  · subst h0
    obtain rfl : x = 0 := by omega
    rw [enc_zero]
    clear hx hn
    go_enter Try.func26, Try.ntmps26
    go_wp2_with fail
    have r1 := RBox.new w
    have b1 := (Below.refl _ w).alloc (Nat.le_refl _) (.cells #[.bool false, .string ⟨#[]⟩] 39)
    generalize w.alloc _ = w1 at r1 b1 ⊢
    refine (refOf_any 0 _ (by omega)).mono ?_; rw [enc_zero]; rintro e w2 ⟨rfl, b2⟩
    have r2 := r1.below b2 r1.lt
    replace b1 := bbl b1 b2
    go_wp2_with fail
    refine (refMake_any false ⟨#[]⟩ _).mono ?_; rintro e w3 ⟨rfl, b3⟩
    have r3 := r2.below b3 r2.lt
    replace b1 := bbl b1 b3
    have f0 := r3.f0
    have f1 := r3.f1
    have c0 := r3.c0
    have c1 := r3.c1
    go_wp2_with fail
    refine bodyPost_int rfl rfl (put2 r3) rfl ⟨rfl, ?_⟩
    exact (b1.setCell (p := ⟨w.heap.size, 0, none⟩) (Nat.le_refl _) _).setCell (p := ⟨w.heap.size, 1, none⟩) (Nat.le_refl _) _
  · obtain ⟨k, rfl⟩ : ∃ k, n = k + 1 := ⟨n - 1, by omega⟩
    have d1 : decide (x < 0) = true := decide_eq_true (by omega)
    have q1 : x + 1 = -(k : Int) := by omega
    have ne := toList_enc_nil h0
    have HQ := Lib.hid q1
    have hx1 : -65536 ≤ x := by omega
    have hx2 : x < 0 := by omega
    clear q1 hx
    go_enter Try.func26, Try.ntmps26
    go_wp2_with fail
    have r1 := RBox.new w
    have b1 := (Below.refl _ w).alloc (Nat.le_refl _) (.cells #[.bool false, .string ⟨#[]⟩] 39)
    generalize w.alloc _ = w1 at r1 b1 ⊢
    rw [show -(x + 1) + 1 = ((k + 1 : Nat) : Int) by have := HQ.out; omega]
    refine (refOf_any (k + 1) _ (by omega)).mono ?_; rintro e w2 ⟨rfl, b2⟩
    have r2 := r1.below b2 r1.lt
    replace b1 := bbl b1 b2
    go_wp2_with fail
    refine (refMake_any true (enc (k + 1)) _).mono ?_; rw [ne]; rintro e w3 ⟨rfl, b3⟩
    have r3 := r2.below b3 r2.lt
    replace b1 := bbl b1 b3
    have f0 := r3.f0
    have f1 := r3.f1
    have c0 := r3.c0
    have c1 := r3.c1
    go_wp2_with fail
    refine bodyPost_int rfl rfl (put2 r3) rfl ⟨by rw [decide_eq_true h0], ?_⟩
    exact (b1.setCell (p := ⟨w.heap.size, 0, none⟩) (Nat.le_refl _) _).setCell (p := ⟨w.heap.size, 1, none⟩) (Nat.le_refl _) _
namespace Num
theorem exp_add {z e f m : Nat} : z ^ e % m * (z ^ f % m) % m = z ^ (e + f) % m := by rw [← Nat.mul_mod, ← Nat.pow_add]
theorem exp_mul {z e f m : Nat} : (z ^ e % m) ^ f % m = z ^ (e * f) % m := by rw [← Nat.pow_mod, ← Nat.pow_mul]
theorem exp_inv {z e m : Nat} (h0 : 0 < m) (h : Nat.gcd z m = 1) : z ^ e % m * (invm z m ^ e % m) % m = 1 % m := by
  rw [← Nat.mul_mod, ← Nat.mul_pow, Nat.pow_mod, (invm_ok h0 h).2, ← Nat.pow_mod]
  try simp
end Num
theorem exp_down {A M : ByteArray} {z m : Nat} (hA : IsN A z) (hM : IsN M m) (h0 : 0 < m) (e : Nat) (he : e < 65536) :
    (∃ d, pwS A (decide (0 < e)) (enc e) M = enc d ∧ pwE A (decide (0 < e)) (enc e) M = 0 ∧ IsN (enc d) d ∧ z ^ e % m * d % m = 1 % m) ∨ (pwE A (decide (0 < e)) (enc e) M = 9 ∧ 0 < e) := by
  have hv : validB (enc e) = true := (sm8 (show e < 18446744073709551616 by omega)).valid
  have hk := chk11 hA hM h0
  rcases Nat.eq_zero_or_pos e with h | h
  · subst h
    have e1 : pwE A false (enc 0) M = 0 := by unfold pwE; rw [if_pos ⟨hv, rfl⟩]; simpa using hk
    refine .inl ⟨1 % m, ?_, e1, IsN.mk' (mod_le hM h0), ?_⟩
    · rw [pwS, show decide (0 < 0) = false from rfl, e1, mo_zero, nv_enc, hM.nv]; simp
    · simp
  · have hd : decide (0 < e) = true := decide_eq_true h
    have hne := toList_enc_nil h
    rw [hd]
    have e1 : pwE A true (enc e) M = ivE A M := by unfold pwE; rw [if_pos ⟨hv, by rw [hne]; rfl⟩]; simp
    by_cases hg : Nat.gcd z m = 1
    · have e2 : ivE A M = 0 := by unfold ivE; rw [if_pos hk, hA.nv, hM.nv, if_pos hg]
      refine .inl ⟨invm z m ^ e % m, ?_, by rw [e1, e2], IsN.mk' (mod_le hM h0), exp_inv h0 hg⟩
      rw [pwS, e1, e2, mo_zero, nv_enc, hA.nv, hM.nv]; simp
    · have e2 : ivE A M = 9 := by unfold ivE; rw [if_pos hk, hA.nv, hM.nv, if_neg hg]
      exact .inr ⟨by rw [e1, e2], h⟩
theorem num_int (n : Nat) (x : Int) (w : World) (hx : x = (n : Int)) (hn : n < 18446744073709551616) :
    Calls Try.prog 10 #[.int .u64 x] w fun e w' => e = .returned (.string (enc n)) ∧ Below w.heap.size w w' := by
  subst hx
  exact num_any n w hn
set_option maxHeartbeats 8000000 in
theorem exps_ok (A B : ByteArray) (ng : Bool) (E M : ByteArray) (e f : Nat) (w : World) (z m : Nat) (he : e < 65536) (hf' : f < 65536) (hA : IsN A z) (hM : IsN M m) (h0 : 0 < m) (hf : fewB A B E M = true) :
    Calls Try.prog 8 #[.agg #[.string A, .string B, .bool ng, .string E, .string M], .int .u16 (e : Int), .int .u16 (f : Int)] w fun r w' => r = .returned (.bool true) ∧ Below w.heap.size w w' := by
  have hb := (Below.refl _ w).alloc (Nat.le_refl _) (.cells #[.string A, .string B, .bool ng, .string E, .string M] 41)
  have hN := NB.new w A B ng E M
  have v3 := hA.valid
  have v4 := hM.valid
  obtain ⟨n1, n2⟩ := toList_ne (hM.pos h0)
  have HZ := Lib.hid hA
  have HM := Lib.hid hM
  have HF := Lib.hid hf
  have hef : e * f < 18446744073709551616 := by
    have : e * f ≤ 65535 * 65535 := Nat.mul_le_mul (by omega) (by omega)
    omega
  have hs1 : ∀ k, k < 18446744073709551616 → IsN (enc k) k := fun k hk => sm8 hk
  have HS := Lib.hid hs1
  have k1 := exp_add (z := z) (e := e) (f := f) (m := m)
  have k2 := exp_mul (z := z) (e := e) (f := f) (m := m)
  have m1 : ∀ k, IsN (enc (z ^ k % m)) (z ^ k % m) := fun k => IsN.mk' (mod_le hM h0)
  have MM := Lib.hid m1
  have K := Lib.hid (And.intro k1 k2)
  have HEF := Lib.hid hef
  clear hA hM hf k1 k2 hef hs1 m1
  go_enter Try.func8, Try.ntmps8
  go_wp2_with fail
  generalize w.alloc _ = w0 at hN hb ⊢
  refine (few_any A B ng E M _).mono ?_; rw [HF.out]; rintro r w1 ⟨rfl, b1⟩
  have N1 := hN.below b1 hN.lt
  replace hb := bbl hb b1
  have c0 := N1.c0; have c4 := N1.c4
  clear b1 hN
  go_wp2_with fail
  refine (refValid_any _ _).mono ?_; rw [v3]; rintro r w' ⟨rfl, rfl⟩
  go_wp2_with fail
  refine (refValid_any _ _).mono ?_; rw [v4]; rintro r w' ⟨rfl, rfl⟩
  clear v3 v4
  go_wp2_with fail
  clear n1 n2 c0 c4
  go_cut [8, 9] from 47 (fun s8 s9 wc => s8 = .string (enc (z ^ e % m)) ∧ s9 = .int .i64 0 ∧ NB wc w.heap.size A B ng E M ∧ Below w.heap.size w wc)
  case first =>
    have hb' := hb.drew
    have N1' : NB w1.drew w.heap.size A B ng E M := N1
    have c0 := N1'.c0
    have q1 : IntKind.u64.wrap (e : Int) = (e : Int) := wraps_u64 _ (by omega) (by omega)
    go_region_with (first
      | ((with_reducible refine (num_any e _ (by omega)).mono ?_); rintro r w2 ⟨rfl, b2⟩; have N2 := N1'.below b2 N1'.lt; have hb2 := bbl hb' b2; have c0 := N2.c0)
      | ((with_reducible refine (Exp_any _ _ _ z e m _ HZ.out (HS.out e (by omega)) HM.out h0).mono ?_); rintro r w3 ⟨rfl, b3⟩; have N3 := N2.below b3 N2.lt; have hb3 := bbl hb2 b3))
    all_goals
      go_wp2_with fail
      go_meet
      exact ⟨rfl, rfl, N3, hb3⟩
  case rest =>
    clear N1 hb
    obtain ⟨rfl, rfl, N1, hb⟩ := hcut
    go_wp2_with fail
    go_cut [10, 11] from 57 (fun s10 s11 wc => s10 = .string (enc (z ^ f % m)) ∧ s11 = .int .i64 0 ∧ NB wc w.heap.size A B ng E M ∧ Below w.heap.size w wc)
    case first =>
      have hb' := hb.drew
      have N1' : NB wc.drew w.heap.size A B ng E M := N1
      have c0 := N1'.c0
      have q2 : IntKind.u64.wrap (f : Int) = (f : Int) := wraps_u64 _ (by omega) (by omega)
      go_region_with (first
        | ((with_reducible refine (num_any f _ (by omega)).mono ?_); rintro r w2 ⟨rfl, b2⟩; have N2 := N1'.below b2 N1'.lt; have hb2 := bbl hb' b2; have c0 := N2.c0)
        | ((with_reducible refine (Exp_any _ _ _ z f m _ HZ.out (HS.out f (by omega)) HM.out h0).mono ?_); rintro r w3 ⟨rfl, b3⟩; have N3 := N2.below b3 N2.lt; have hb3 := bbl hb2 b3))
      all_goals
        go_wp2_with fail
        go_meet
        exact ⟨rfl, rfl, N3, hb3⟩
    case rest =>
      clear N1 hb
      obtain ⟨rfl, rfl, N1, hb⟩ := hcut
      go_wp2_with fail
      go_cut [12, 13] from 67 (fun s12 s13 wc => s12 = .string (enc (z ^ (e + f) % m)) ∧ s13 = .int .i64 0 ∧ NB wc w.heap.size A B ng E M ∧ Below w.heap.size w wc)
      case first =>
        have hb' := hb.drew
        have N1' : NB wc.drew w.heap.size A B ng E M := N1
        have c0 := N1'.c0
        have q1 : IntKind.u64.wrap (e : Int) = (e : Int) := wraps_u64 _ (by omega) (by omega)
        have q2 : IntKind.u64.wrap (f : Int) = (f : Int) := wraps_u64 _ (by omega) (by omega)
        have q3 : IntKind.u64.wrap ((e : Int) + (f : Int)) = ((e + f : Nat) : Int) := by rw [← Int.natCast_add]; exact wraps_u64 _ (by omega) (by omega)
        go_region_with (first
          | ((with_reducible refine (num_int (e + f) ((e : Int) + (f : Int)) _ (by omega) (by omega)).mono ?_); rintro r w2 ⟨rfl, b2⟩; have N2 := N1'.below b2 N1'.lt; have hb2 := bbl hb' b2; have c0 := N2.c0)
          | ((with_reducible refine (Exp_any _ _ _ z (e + f) m _ HZ.out (HS.out (e + f) (by omega)) HM.out h0).mono ?_); rintro r w3 ⟨rfl, b3⟩; have N3 := N2.below b3 N2.lt; have hb3 := bbl hb2 b3))
        all_goals
          go_wp2_with fail
          go_meet
          exact ⟨rfl, rfl, N3, hb3⟩
      case rest =>
        clear N1 hb
        obtain ⟨rfl, rfl, N1, hb⟩ := hcut
        go_wp2_with fail
        refine (ModMul_ok _ _ _ (z ^ e % m) (z ^ f % m) m _ (MM.out e) (MM.out f) HM.out h0).mono ?_; rw [K.out.1]; rintro r w3 ⟨rfl, b3⟩
        replace N1 := N1.below b3 N1.lt
        replace hb := bbl hb b3
        clear b3
        go_wp2_with fail
        go_cut [16, 17] from 87 (fun s16 s17 wc => s16 = .string (enc (z ^ (e * f) % m)) ∧ s17 = .int .i64 0 ∧ NB wc w.heap.size A B ng E M ∧ Below w.heap.size w wc)
        case first =>
          have hb' := hb.drew
          have N1' : NB w3.drew w.heap.size A B ng E M := N1
          have c0 := N1'.c0
          have q1 : IntKind.u64.wrap (e : Int) = (e : Int) := wraps_u64 _ (by omega) (by omega)
          have q2 : IntKind.u64.wrap (f : Int) = (f : Int) := wraps_u64 _ (by omega) (by omega)
          have q3 : IntKind.u64.wrap ((e : Int) * (f : Int)) = ((e * f : Nat) : Int) := by rw [← Int.natCast_mul]; exact wraps_u64 _ (by omega) (by have := HEF.out; omega)
          go_region_with (first
            | ((with_reducible refine (num_int (e * f) ((e : Int) * (f : Int)) _ (Int.natCast_mul e f).symm HEF.out).mono ?_); rintro r w2 ⟨rfl, b2⟩; have N2 := N1'.below b2 N1'.lt; have hb2 := bbl hb' b2; have c0 := N2.c0)
            | ((with_reducible refine (Exp_any _ _ _ z (e * f) m _ HZ.out (HS.out (e * f) HEF.out) HM.out h0).mono ?_); rintro r w3 ⟨rfl, b3⟩; have N3 := N2.below b3 N2.lt; have hb3 := bbl hb2 b3))
          all_goals
            go_wp2_with fail
            go_meet
            exact ⟨rfl, rfl, N3, hb3⟩
        case rest =>
          clear N1 hb
          obtain ⟨rfl, rfl, N1, hb⟩ := hcut
          go_wp2_with fail
          have q2 : IntKind.u64.wrap (f : Int) = (f : Int) := wraps_u64 _ (by omega) (by omega)
          refine (num_any f _ (by omega)).mono ?_; rintro r w2 ⟨rfl, b2⟩
          replace N1 := N1.below b2 N1.lt
          replace hb := bbl hb b2
          go_wp2_with fail
          refine (Exp_any _ _ _ (z ^ e % m) f m _ (MM.out e) (HS.out f (by omega)) HM.out h0).mono ?_; rw [K.out.2]; rintro r w3 ⟨rfl, b3⟩
          replace N1 := N1.below b3 N1.lt
          replace hb := bbl hb b3
          clear b2 b3 q2
          go_wp2_with fail
          go_cut [20, 21] from 121 (fun s20 s21 wc => s20 = .string (pwS A (decide (0 < e)) (enc e) M) ∧ s21 = .int .i64 (pwE A (decide (0 < e)) (enc e) M) ∧ NB wc w.heap.size A B ng E M ∧ Below w.heap.size w wc)
          case first =>
            have hb' := hb.drew
            have N1' : NB w3.drew w.heap.size A B ng E M := N1
            have c0 := N1'.c0
            have q1 : IntKind.i64.wrap (e : Int) = (e : Int) := IntWalk.i64_in _ (by omega)
            have q2 : IntKind.i64.wrap (-(e : Int)) = -(e : Int) := IntWalk.i64_in _ (by omega)
            go_region_with (first
              | ((with_reducible refine (refOfNeg_any e (-(e : Int)) _ rfl he).mono ?_); rintro r w4 ⟨rfl, b4⟩; have N2 := N1'.below b4 N1'.lt; have hb2 := bbl hb' b4; have c0 := N2.c0)
              | ((with_reducible refine (Power_any A (decide (0 < e)) (enc e) M _).mono ?_); rintro r w5 ⟨rfl, b5⟩; have N3 := N2.below b5 N2.lt; have hb3 := bbl hb2 b5))
            all_goals
              go_wp2_with fail
              go_meet
              exact ⟨rfl, rfl, N3, hb3⟩
          case rest =>
            clear N1 hb
            obtain ⟨rfl, rfl, N1, hb⟩ := hcut
            rcases exp_down HZ.out HM.out h0 e he with ⟨d, hd1, hd2, hd3, hd4⟩ | ⟨hd1, hd2⟩
            · rw [hd1, hd2]
              have HD := Lib.hid (And.intro hd3 hd4)
              clear hd1 hd2 hd3 hd4
              have e1 := enc_same' (1 % m)
              go_wp2_with fail
              refine (ModMul_ok _ _ _ (z ^ e % m) d m _ (MM.out e) HD.out.1 HM.out h0).mono ?_; rw [HD.out.2]; rintro r w4 ⟨rfl, b4⟩
              replace hb := bbl hb b4
              go_wp2_with fail
              refine (awakeM _).mono ?_; rintro r w5 ⟨rfl, b5⟩
              replace hb := bbl hb b5
              go_wp2_with fail
              refine (num_any 1 _ (by omega)).mono ?_; rintro r w6 ⟨rfl, b6⟩
              replace hb := bbl hb b6
              go_wp2_with fail
              refine (refMod_any _ _ 1 m _ (HS.out 1 (by omega)) HM.out h0).mono ?_; rintro r w7 ⟨rfl, b7⟩
              replace hb := bbl hb b7
              go_wp2_with fail
              go_ret
              exact ⟨rfl, hb⟩
            · rw [hd1]
              clear hd1
              have d1 : decide ((0 : Int) < (e : Int)) = true := decide_eq_true (by omega)
              go_wp2_with fail
              refine (awakeM _).mono ?_; rintro r w5 ⟨rfl, b5⟩
              replace hb := bbl hb b5
              go_wp2_with fail
              go_ret
              exact ⟨rfl, hb⟩
end Go.Proofs.Ytoocpmmgoljncaa
