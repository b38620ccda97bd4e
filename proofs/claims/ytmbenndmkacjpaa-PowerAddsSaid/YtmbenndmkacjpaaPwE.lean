/- power: Table.Exp. -/
import Derived.Test.YtmbenndmkacjpaaPwD
import Derived.BigQuiet
import Derived.Deep.RegionHeld3
namespace Go.Proofs.Ytmbenndmkacjpaa
open Go.RowKit Num
set_option maxRecDepth 20000
set_option linter.unusedVariables false
theorem TbAt.open' {W : World} {v : Value} {m b n : Nat} (h : TbAt W v m b n) : ∃ ao c, v = .slice ao n c ∧ ∀ i, i < n → ∃ g h c', ao = some ⟨g, 0, none⟩ ∧ g < W.heap.size ∧ W.cell? ⟨g, i, none⟩ = some (.slice (some ⟨h, 0, none⟩) 16 c') ∧ h < W.heap.size ∧ StrAt W h (trow m b i 16) := by
  rcases h with ⟨h1, h2⟩ | ⟨g, c, h1, h2, h3⟩
  · subst h1; exact ⟨none, 0, h2, fun i hi => by omega⟩
  · refine ⟨some ⟨g, 0, none⟩, c, h1, fun i hi => ?_⟩
    obtain ⟨q, c', e1, e2, e3⟩ := h3 i hi
    exact ⟨g, q, c', rfl, h2, e1, e2, e3⟩
theorem tabExp_zero (s : ByteArray) (w : World) :
    Calls Try.prog 11 #[.agg #[.string ⟨#[]⟩, .int .i64 0, .slice none 0 0], .string s] w fun e w' => e = .returned (.tuple #[.string ⟨#[]⟩, .int .i64 (if validB s = true then 26 else 3)]) ∧ Below w.heap.size w w' := by
  have hb := (Below.refl _ w).alloc (Nat.le_refl _) (.cells #[.string ⟨#[]⟩, .int .i64 0, .slice none 0 0] 31)
  have hT := TX.new w ⟨#[]⟩ 0 (.slice none 0 0)
  by_cases hv : validB s = true
  · rw [if_pos hv]
    have HV := Lib.hid hv
    clear hv
    go_enter Try.func11, Try.ntmps11
    go_wp2_with fail
    refine (Valid_any s _).mono ?_; rw [HV.out]; rintro e w2 ⟨rfl, rfl⟩
    have c0 := hT.c0
    go_wp2_with fail
    go_ret2
    exact ⟨rfl, hb⟩
  · rw [if_neg hv]
    have HV := Lib.hid (show validB s = false by simpa using hv)
    clear hv
    go_enter Try.func11, Try.ntmps11
    go_wp2_with fail
    refine (Valid_any s _).mono ?_; rw [HV.out]; rintro e w2 ⟨rfl, rfl⟩
    go_wp2_with fail
    go_ret2
    exact ⟨rfl, hb⟩
/-- what a table's power answers -/
def teE (bits : Nat) (s : ByteArray) : Int := if validB s = true then (if bits < bl (nv s) then 5 else 0) else 3
set_option maxHeartbeats 4000000 in
theorem tabExp_bad (M s : ByteArray) (bits : Nat) (v : Value) (w : World) (hM : M.size ≠ 0) (E : Int) (hE : teE bits s = E) (h0 : E ≠ 0) :
    Calls Try.prog 11 #[.agg #[.string M, .int .i64 (bits : Int), v], .string s] w fun e w' => e = .returned (.tuple #[.string ⟨#[]⟩, .int .i64 E]) ∧ Below w.heap.size w w' := by
  have hb := (Below.refl _ w).alloc (Nat.le_refl _) (.cells #[.string M, .int .i64 (bits : Int), v] 31)
  have hT := TX.new w M (bits : Int) v
  obtain ⟨n1, n2⟩ := tl_ne hM
  unfold teE at hE
  by_cases hv : validB s = true
  · rw [if_pos hv] at hE
    have hlt : bits < bl (nv s) := by
      by_cases h : bits < bl (nv s)
      · exact h
      · rw [if_neg h] at hE; exact absurd hE.symm h0
    rw [if_pos hlt] at hE
    subst hE
    have HV := Lib.hid hv
    have HB : Hid (∀ w, Calls Try.prog 24 #[.string s] w fun e w' => e = .returned (.int .i64 ((bl (nv s) : Nat) : Int)) ∧ w' = w) := fun w => (Bits_any s (nv s) w (isN_of_valid hv)).mono fun _ _ ⟨a, b⟩ => ⟨a, b.symm⟩
    have u1 : decide ((bits : Int) < ((bl (nv s) : Nat) : Int)) = true := decide_eq_true (by omega)
    have u2 : decide (bits < bl (nv s)) = true := decide_eq_true hlt
    clear hv hlt h0
    go_enter Try.func11, Try.ntmps11
    go_wp2_with fail
    generalize w.alloc _ = w0 at hb hT ⊢
    refine (Valid_any s _).mono ?_; rw [HV.out]; rintro e w2 ⟨rfl, rfl⟩
    have c0 := hT.c0
    have c1 := hT.c1
    go_wp2_with fail
    go_quiet ((go_at_call 24; exact Calls.quiet_of_same (HB.out _)))
    have hq := below_drewN hb nq
    generalize w0.drewN nq = w2 at hq ⊢
    go_wp2_with fail
    go_ret2
    exact ⟨rfl, hq⟩
  · rw [if_neg hv] at hE
    subst hE
    have HV := Lib.hid (show validB s = false by simpa using hv)
    clear hv h0
    go_enter Try.func11, Try.ntmps11
    go_wp2_with fail
    refine (Valid_any s _).mono ?_; rw [HV.out]; rintro e w2 ⟨rfl, rfl⟩
    go_wp2_with fail
    go_ret2
    exact ⟨rfl, hb⟩
namespace Num
theorem dig_next (e i b : Nat) : b ^ (e % 16 ^ (i + 1)) = b ^ (e % 16 ^ i) * b ^ (16 ^ i * (e / 16 ^ i % 16)) := by
  rw [← Nat.pow_add, Nat.pow_succ, Nat.mod_mul]
theorem bit_next (x k : Nat) : x % 2 ^ (k + 1) = x % 2 ^ k + (if tb x k then 2 ^ k else 0) := by
  rw [Nat.pow_succ, Nat.mod_mul]
  unfold tb
  by_cases h : x / 2 ^ k % 2 = 1
  · rw [decide_eq_true h, h]; simp
  · rw [decide_eq_false h, show x / 2 ^ k % 2 = 0 by omega]; simp
theorem tb_shift (e i k : Nat) : tb e (4 * i + k) = tb (e / 16 ^ i) k := by
  unfold tb
  rw [Nat.pow_add, Nat.pow_mul, ← Nat.div_div_eq_div_mul]
end Num
theorem or_bit (k x : Nat) (hk : k < 4) (hx : x < 2 ^ k) : Go.bits BinOp.or IntKind.i64 ((x : Nat) : Int) (wrap64 (2 ^ k)) = ((x + 2 ^ k : Nat) : Int) := by
  have key : ∀ k : Fin 4, ∀ x : Fin 8, x.val < 2 ^ k.val → Go.bits BinOp.or IntKind.i64 ((x.val : Nat) : Int) (wrap64 (2 ^ k.val)) = ((x.val + 2 ^ k.val : Nat) : Int) := by decide +kernel
  have h8 : x < 8 := Nat.lt_of_lt_of_le hx (Nat.pow_le_pow_right (n := 2) (by omega) (show k ≤ 3 by omega))
  exact key ⟨k, hk⟩ ⟨x, h8⟩ hx
set_option maxHeartbeats 8000000 in
theorem tabExp_ok (M s : ByteArray) (bits m b e0 n : Nat) (v : Value) (w : World) (hM : IsN M m) (h2 : 2 ≤ m) (hs : IsN s e0) (hl : bl e0 ≤ bits) (hb' : bits ≤ 1024) (hn : (bits + 3) / 4 = n) (hT : TbAt w v m b n) :
    Calls Try.prog 11 #[.agg #[.string M, .int .i64 (bits : Int), v], .string s] w fun e w' => e = .returned (.tuple #[.string (enc (b ^ e0 % m)), .int .i64 0]) ∧ Below w.heap.size w w' := by
  have hb := (Below.refl _ w).alloc (Nat.le_refl _) (.cells #[.string M, .int .i64 (bits : Int), v] 31)
  have hT1 := hT.below hb
  have hX := TX.new w M (bits : Int) v
  obtain ⟨n1, n2⟩ := tl_ne (hM.pos (by omega))
  have HS := Lib.hid hs
  have HM := Lib.hid hM
  have H2 := Lib.hid h2
  have HB : Hid (∀ w, Calls Try.prog 24 #[.string s] w fun e w' => e = .returned (.int .i64 ((bl e0 : Nat) : Int)) ∧ w' = w) := fun w => (Bits_any s e0 w hs).mono fun _ _ ⟨a, b⟩ => ⟨a, b.symm⟩
  have u1 : decide ((bits : Int) < ((bl e0 : Nat) : Int)) = false := decide_eq_false (by omega)
  have u2 : decide (bits < bl e0) = false := decide_eq_false (by omega)
  have hlast : e0 % 16 ^ n = e0 := by
    refine Nat.mod_eq_of_lt (Nat.lt_of_lt_of_le (lt_bl e0) ?_)
    rw [show (16 : Nat) = 2 ^ 4 from rfl, ← Nat.pow_mul]
    exact Nat.pow_le_pow_right (by omega) (by omega)
  have HLAST := Lib.hid hlast
  have hn256 : n ≤ 256 := by omega
  clear hM h2 hs hlast hT hl hn
  obtain ⟨ao, cc, rfl, hrow⟩ := hT1.open'
  have hw1 : Below w.heap.size w (w.alloc (.cells #[.string M, .int .i64 (bits : Int), .slice ao n cc] 31)) := hb
  have HROW := Lib.hid hrow
  clear hrow hT1
  go_enter Try.func11, Try.ntmps11
  go_wp2_with fail
  generalize w.alloc _ = w0 at hb hX HROW ⊢
  clear hw1
  refine (Valid_any s _).mono ?_; rw [HS.out.valid]; rintro e w2 ⟨rfl, rfl⟩
  have c0 := hX.c0
  have c1 := hX.c1
  have c2 := hX.c2
  go_wp2_with fail
  go_quiet ((go_at_call 24; exact Calls.quiet_of_same (HB.out _)))
  have hq := below_drewN hb nq
  have hqq : Below w0.heap.size w0 (w0.drewN nq) := below_drewN (Below.refl _ w0) nq
  have hX2 := hX.below hqq hX.lt
  have HROW2 : Hid (∀ i, i < n → ∃ g h c', ao = some ⟨g, 0, none⟩ ∧ g < (w0.drewN nq).heap.size ∧ (w0.drewN nq).cell? ⟨g, i, none⟩ = some (.slice (some ⟨h, 0, none⟩) 16 c') ∧ h < (w0.drewN nq).heap.size ∧ StrAt (w0.drewN nq) h (trow m b i 16)) := fun i hi => by
    obtain ⟨g, h, c', e1, e2, e3, e4, e5⟩ := HROW.out i hi
    have := hqq.size
    exact ⟨g, h, c', e1, by omega, (hqq.cell (p := ⟨g, i, none⟩) e2).trans e3, by omega, e5.below hqq e4⟩
  clear hX HROW hb hqq c0 c1 c2
  generalize w0.drewN nq = w2 at hq hX2 HROW2 ⊢
  have c2 := hX2.c2
  go_wp2_with fail
  refine (of1 _).mono ?_; rintro e w3 ⟨rfl, b3⟩
  have hX3 := hX2.below b3 hX2.lt
  have hb3 := hq.trans (b3.mono hq.size)
  have HROW3 : Hid (∀ i, i < n → ∃ g h c', ao = some ⟨g, 0, none⟩ ∧ g < w3.heap.size ∧ w3.cell? ⟨g, i, none⟩ = some (.slice (some ⟨h, 0, none⟩) 16 c') ∧ h < w3.heap.size ∧ StrAt w3 h (trow m b i 16)) := fun i hi => by
    obtain ⟨g, h, c', e1, e2, e3, e4, e5⟩ := HROW2.out i hi
    have := b3.size
    exact ⟨g, h, c', e1, by omega, (b3.cell (p := ⟨g, i, none⟩) e2).trans e3, by omega, e5.below b3 e4⟩
  clear hX2 HROW2 hq b3 c2
  have c2 := hX3.c2
  go_wp2_with fail
  go_loopw [6, 29] (fun vo vi wr => ∃ i : Nat, i ≤ n ∧ vi = .int .i64 (i : Int) ∧ vo = .string (enc (b ^ (e0 % 16 ^ i) % m)) ∧ Below w3.heap.size w3 wr) (fun _ vi _ => n - (intOf vi).toNat)
  case atStart => exact ⟨0, by omega, rfl, by rw [Nat.pow_zero, Nat.mod_one, Nat.pow_zero, Nat.mod_eq_of_lt (by have := H2.out; omega)], Below.refl _ _⟩
  case round =>
    obtain ⟨i, hi, rfl, rfl, hbr⟩ := hrel
    by_cases hlt : i < n
    · obtain ⟨g, h, c', rfl, e2, e3, e4, e5⟩ := HROW3.out i hlt
      have c3 := (hbr.cell (p := ⟨g, i, none⟩) e2).trans e3
      have HST := Lib.hid (e5.below hbr e4)
      have HBIT : Hid (∀ (k : Nat) w, k ≤ 4 → Calls Try.prog 25 #[.string s, .int .i64 (4 * (i : Int) + (k : Int))] w fun e w' => e = .returned (.bool (tb (e0 / 16 ^ i) k)) ∧ w = w') := fun k w hk => by
        have hh := Bit_any s e0 (4 * i + k) w HS.out (by omega)
        rw [tb_shift, show ((4 * i + k : Nat) : Int) = 4 * (i : Int) + (k : Int) by omega] at hh
        exact hh
      obtain ⟨q, hqv⟩ : ∃ q, e0 / 16 ^ i = q := ⟨_, rfl⟩
      rw [hqv] at HBIT
      have HQ := Lib.hid hqv
      clear e2 e3 e4 e5 hqv
      go_wp2_with fail
      obtain ⟨wo, rfl⟩ : ∃ wo : World, wo = wr := ⟨_, rfl⟩
      go_loopw [9, 34] (fun vd vk wr => ∃ k : Nat, k ≤ 4 ∧ vk = .int .i64 (k : Int) ∧ vd = .int .i64 ((q % 2 ^ k : Nat) : Int) ∧ wr = wo) (fun _ vk _ => 4 - (intOf vk).toNat)
      case atStart => exact ⟨0, by omega, rfl, by simp [Nat.mod_one], rfl⟩
      case round =>
        obtain ⟨k, hk, rfl, rfl, rfl⟩ := hrel
        by_cases hk4 : k < 4
        · cases hbit : tb q k
          · have hnx := bit_next q k
            rw [hbit] at hnx
            have HNX := Lib.hid hnx
            clear hnx
            go_wp2_with fail
            refine (HBIT.out k _ hk).mono ?_; rw [hbit]; rintro e w4 ⟨rfl, rfl⟩
            go_wp2_with fail
            go_roundw
            case rel => exact ⟨k + 1, by omega, by go_num, by rw [HNX.out]; simp, trivial⟩
            case measure => simp [intOf]; omega
          · have hnx := bit_next q k
            rw [hbit] at hnx
            have HNX := Lib.hid hnx
            clear hnx
            go_wp2_with fail
            refine (HBIT.out k _ hk).mono ?_; rw [hbit]; rintro e w4 ⟨rfl, rfl⟩
            go_wp2_with fail
            refine ⟨⟨k + 1, by omega, by go_num, ?_, trivial⟩, by simp [intOf]; omega⟩
            rw [HNX.out, if_pos trivial, ← or_bit k (q % 2 ^ k) hk4 (Nat.mod_lt _ (Nat.two_pow_pos k))]
            simp
        · obtain rfl : k = 4 := by omega
          obtain ⟨d, hd⟩ : ∃ d, q % 2 ^ 4 = d := ⟨_, rfl⟩
          have hd16 : d < 16 := by rw [← hd]; exact Nat.mod_lt _ (by omega)
          rw [hd]
          have hX4 := hX3.below hbr hX3.lt
          have d0 := hX4.c0
          have s1 : wr.cell? ⟨h, d, none⟩ = some (.string (enc (tnum m b i d))) := by
            rw [HST.out d (by rw [trow_len]; omega), trow_get]
          have k3 : (0 : Int) ≤ (d : Int) := by omega
          have k4 : (d : Int) < 16 := by omega
          have HMU : Hid (∀ w, Calls Try.prog 23 #[.string (enc (b ^ (e0 % 16 ^ i) % m)), .string (enc (tnum m b i d)), .string M] w fun e w' => e = .returned (.tuple #[.string (enc (b ^ (e0 % 16 ^ (i + 1)) % m)), .int .i64 0]) ∧ Below w.heap.size w w') := fun w => by
            have hh := ModMul_ok (enc (b ^ (e0 % 16 ^ i) % m)) (enc (tnum m b i d)) M _ _ m w (IsN.mk' (mod_le (a := b ^ (e0 % 16 ^ i)) HM.out (by have := H2.out; omega))) (IsN.mk' (mod_le (a := b ^ (16 ^ i * d)) HM.out (by have := H2.out; omega))) HM.out (by have := H2.out; omega)
            rw [dig_next, HQ.out, show q % 16 = d from hd, Nat.mul_mod]
            exact hh
          clear hd HBIT
          go_wp2_with fail
          go_region_held3 (fun w' => w'.cell? ⟨w.heap.size, 0, none⟩ = some (.string M) ∧ w'.cell? ⟨h, d, none⟩ = some (.string (enc (tnum m b i d))) ∧ Below wr.heap.size wr w')
            (first | exact ⟨d0, s1, (Below.refl _ wr).drew⟩ | (refine keepM ?_ bn; assumption))
            (first | (go_at_call 23; (with_reducible refine (HMU.out _).mono ?_); rintro e wn ⟨rfl, bn⟩))
          go_split_ands
          have hbn : Below wr.heap.size wr wn := by assumption
          have hbn2 := hbr.trans (hbn.mono hbr.size)
          go_wp2_with fail
          exact ⟨⟨i + 1, by omega, by go_num, rfl, hbn2⟩, by simp [intOf]; omega⟩
    · obtain rfl : i = n := by omega
      rw [HLAST.out]
      go_wp2_with fail
      go_ret2
      exact ⟨rfl, hb3.trans (hbr.mono hb3.size)⟩
end Go.Proofs.Ytmbenndmkacjpaa
