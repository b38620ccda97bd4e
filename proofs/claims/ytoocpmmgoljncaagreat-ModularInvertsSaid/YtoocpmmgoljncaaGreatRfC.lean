/- Contracts of the reference of layer 1: Times, fit, Small, Add, Sub, Mul, DivMod, Bits, Bit, Gcd. -/
import Derived.Test.YtoocpmmgoljncaaGreatNatD
import Derived.Test.YtoocpmmgoljncaaGreatNatG
import Derived.Test.YtoocpmmgoljncaaGreatRfB
import Derived.Deep.RegionWith
namespace Go.Proofs.YtoocpmmgoljncaaGreat
open Go.RowKit Num
set_option maxRecDepth 20000
set_option linter.unusedVariables false
set_option maxHeartbeats 4000000 in
theorem refTimes_long (s t : ByteArray) (a b : Nat) (w : World) (hs : s = enc a) (ht : t = enc b) (z1 : s.size ≤ 5000) (z2 : t.size ≤ 5000) (h8 : 8 < s.size + t.size) :
    Calls Tryz.prog 88 #[.string s, .string t] w fun e w' => e = .returned (.string (enc (a * b))) ∧ Below w.heap.size w w' := by
  have l1 : s.size = blen a := by rw [hs, size_enc]
  have l2 : t.size = blen b := by rw [ht, size_enc]
  have n1 : nv s = a := by rw [hs, nv_enc]
  have n2 : nv t = b := by rw [ht, nv_enc]
  have HL1 := Lib.hid l1; clear l1
  have HL2 := Lib.hid l2; clear l2
  have HN1 := Lib.hid n1; clear n1
  have HN2 := Lib.hid n2; clear n2
  clear hs ht
  obtain ⟨i0, hi, hz0, hz1, hz2⟩ := info_parts info_u8
  obtain ⟨i1, hj, hy0, hy1, hy2⟩ := info_parts info_int
  obtain ⟨n, hn⟩ : ∃ n : Nat, s.size + t.size = n := ⟨_, rfl⟩
  have hni : (s.size : Int) + (t.size : Int) = (n : Int) := by omega
  have d8 : decide ((n : Int) ≤ 8) = false := decide_eq_false (by omega)
  have HN := Lib.hid hn
  have zs' : s.size ≤ n := by omega
  have zt' : t.size ≤ n := by omega
  have zn : n ≤ 10000 := by omega
  clear hn
  go_enter Tryz.func88, Tryz.ntmps88
  go_wp2_with (at_make; refine wpList_make_arr _ rfl _ _ _ rfl 3 i1 .i64 8 Tryz.underlying112 hj hy0 hy1 hy2 _ _ _ _ (n + 1) rfl rfl ?_ ?_ ?_ ?_ ?_ <;> first | (intro w1 ha hb hsz) | omega | (unfold maxLen; omega))
  clear hj hy0 hy1 hy2 hni d8 h8
  go_loopw [7] (fun i wr => ∃ (k : Nat) (f : Nat → Int), k ≤ s.size ∧ i = .int .i64 k ∧ Arr wr w.heap.size 3 .i64 (n + 1) f ∧ Cols a b k 0 (n + 1) f ∧ Below w.heap.size w wr)
    (fun i _ => s.size - (intOf i).toNat)
  case atStart => exact ⟨0, _, by omega, rfl, ha, Cols.zero _ _ _, hb⟩
  case round =>
    clear ha hb hsz
    obtain ⟨k, f, hk, rfl, hc, hf, hb⟩ := hrel
    by_cases hlt : k < s.size
    · have q1 := dg_nonneg (nv s) k
      have q2 := dg_le (nv s) k
      go_wp2_with fail
      obtain ⟨wo, rfl⟩ : ∃ wo : World, wo = wr := ⟨_, rfl⟩
      go_loopw [8] (fun i wr => ∃ (j : Nat) (f : Nat → Int), j ≤ t.size ∧ i = .int .i64 j ∧ Arr wr w.heap.size 3 .i64 (n + 1) f ∧ Cols a b k j (n + 1) f ∧ Below w.heap.size w wr)
        (fun i _ => t.size - (intOf i).toNat)
      case atStart => exact ⟨0, f, by omega, rfl, hc, hf, hb⟩
      case round =>
        clear hc hf f hb
        obtain ⟨j, f, hj, rfl, hc, hf, hb⟩ := hrel
        by_cases hl2 : j < t.size
        · have p1 := dg_nonneg (nv t) j
          have p2 := dg_le (nv t) j
          have p3 : 0 ≤ dg (nv s) k * dg (nv t) j := Int.mul_nonneg q1 p1
          have p4 : dg (nv s) k * dg (nv t) j ≤ 65025 := by have := Int.mul_le_mul q2 p2 p1 (by omega); omega
          have f1 := hf.low (k + j)
          have f2 : f (k + j) ≤ 65025 * 10000 := by have := hf.high (k + j); split at this <;> omega
          have hkn : k + j < n + 1 := by have := HN.out; omega
          have hcell := hc.cell hkn
          have hfr := hc.free (k + j)
          go_wp2_with fail
          have g1 : IntKind.i64.wrap ((k : Int) + j) = (k : Int) + j := IntWalk.i64_in _ (by omega)
          have g2 : (0 : Int) ≤ (k : Int) + j := by omega
          have g3 : ((k : Int) + j).toNat = k + j := by omega
          have g4 : (k : Int) + j < (n : Int) + 1 := by omega
          have g5 : IntKind.i64.wrap (dg (nv s) k * dg (nv t) j) = dg (nv s) k * dg (nv t) j := IntWalk.i64_in _ (by omega)
          have g6 : IntKind.i64.wrap (f (k + j) + dg (nv s) k * dg (nv t) j) = f (k + j) + dg (nv s) k * dg (nv t) j := IntWalk.i64_in _ (by omega)
          go_region_with (go_at_call 104; refine (refAt_any _ _ _ (by omega) (by omega)).mono ?_; rintro e w' ⟨rfl, rfl⟩)
          all_goals
            clear g1 g2 g3 g4 g5 g6
            go_wp2_with fail
            rw [HN1.out, HN2.out]
            go_roundw
            case rel => exact ⟨j + 1, _, by omega, by go_num, (hc.set (k + j) _).drew, hf.step hkn, ((hb.setCell (Nat.le_refl _) _).drew)⟩
            case measure => simp [intOf]; omega
        · obtain rfl : j = t.size := by omega
          go_wp2_with fail
          go_roundw
          case rel => exact ⟨k + 1, f, by omega, by go_num, hc, hf.next (by rw [HL2.out]; exact lt_blen b), hb⟩
          case measure => simp [intOf]; omega
    · obtain rfl : k = s.size := by omega
      have hsum : ((a * b : Nat) : Int) = ds 256 f 0 (n + 1) := by
        rw [hf.sum, Nat.mod_eq_of_lt (show a < 256 ^ s.size by rw [HL1.out]; exact lt_blen a)]
        simp [Nat.mod_one]
      have hlt2 : a * b < 256 ^ n := by
        rw [← HN.out, Nat.pow_add, HL1.out, HL2.out]
        have h1 := lt_blen a
        have h2 := lt_blen b
        exact Nat.mul_lt_mul'' h1 h2
      have hf0 := hf.low
      have hf1 : ∀ m, f m ≤ 700000000 := fun m => by have := hf.high m; split at this <;> omega
      have hni : (s.size : Int) + (t.size : Int) = (n : Int) := by have := HN.out; omega
      have HSUM := Lib.hid hsum; clear hsum
      have HF0 := Lib.hid hf0; clear hf0
      have HF1 := Lib.hid hf1; clear hf1
      clear hf
      go_wp2_with (at_make; refine wpList_make_arr _ rfl _ _ _ rfl 5 i0 .u8 1 Tryz.underlying76 hi hz0 hz1 hz2 _ _ _ _ n rfl rfl ?_ ?_ ?_ ?_ ?_ <;> first | (intro w2 ha hb2 hsz) | omega | (unfold maxLen; omega))
      clear hi hz0 hz1 hz2 hni
      have hco := hc.lt
      have hne : wr.heap.size ≠ w.heap.size := by omega
      have HNE := Lib.hid hne; clear hne
      have hc2 := hc.below hb2 hco
      have HB2 : Below w.heap.size w w2 := hb.trans (hb2.mono (by omega))
      obtain ⟨wo, hwo⟩ : ∃ wo : World, wo = wr := ⟨_, rfl⟩
      rw [← hwo] at ha HNE hc hb2 hsz hco hb ⊢
      clear hb2 hb hwo hc
      go_loopw [10, 11] (fun c i wr => ∃ (k : Nat) (g : Nat → Int), k ≤ n ∧ i = .int .i64 k ∧ c = .int .i64 (colc f k) ∧ 0 ≤ colc f k ∧ colc f k ≤ 700000000 ∧ Arr wr w.heap.size 3 .i64 (n + 1) f ∧
          Arr wr wo.heap.size 5 .u8 n g ∧ Filled n (a * b) k g ∧ Below w.heap.size w wr)
        (fun _ i _ => n - (intOf i).toNat)
      case atStart => exact ⟨0, _, by omega, rfl, by rw [colc_zero], by rw [colc_zero]; omega, by rw [colc_zero]; omega, hc2, ha, Filled.zero _ _, HB2⟩
      case round =>
        clear hc2 ha hsz HB2
        obtain ⟨k, g, hk, rfl, rfl, c0, c1, hc, ha, hg, hb⟩ := hrel
        by_cases hl : k < n
        · have st := colc_step f (a * b) _ k HSUM.out (by omega)
          rw [Int.add_comm (colc f k)] at st
          have ST := Lib.hid st; clear st
          have f0' := HF0.out k
          have f1' := HF1.out k
          have hcell := hc.cell (show k < n + 1 by omega)
          have hcell2 := ha.cell (show n - 1 - k < n by omega)
          have hfr := ha.free (n - 1 - k)
          go_wp2_with fail
          rw [ST.out.1, ST.out.2]
          have b1 := ST.out.2
          exact ⟨⟨k + 1, _, by omega, by go_num, rfl, by omega, by omega, hc.other HNE.out _, ha.set _ _, hg.step hl (by omega) rfl, hb.setCell (by simp; omega) _⟩, by simp [intOf]; omega⟩
        · obtain rfl : k = n := by omega
          go_wp2_with fail
          refine (refTrim_arr wr _ k (a * b) g _ ha (by omega) hg.done hlt2).mono ?_
          rintro e w' ⟨rfl, rfl⟩
          go_wp2_with fail
          go_ret
          exact ⟨rfl, hb⟩
theorem refTimes_any (s t : ByteArray) (a b : Nat) (w : World) (hs : s = enc a) (ht : t = enc b) (z1 : s.size ≤ 5000) (z2 : t.size ≤ 5000) :
    Calls Tryz.prog 88 #[.string s, .string t] w fun e w' => e = .returned (.string (enc (a * b))) ∧ Below w.heap.size w w' := by
  rcases Nat.lt_or_ge 8 (s.size + t.size) with h8 | h8
  · exact refTimes_long s t a b w hs ht z1 z2 h8
  · have l1 : s.size = blen a := by rw [hs, size_enc]
    have l2 : t.size = blen b := by rw [ht, size_enc]
    have n1 : nv s = a := by rw [hs, nv_enc]
    have n2 : nv t = b := by rw [ht, nv_enc]
    have hlt : a * b < 18446744073709551616 := by
      have h1 := lt_blen a
      have h2 := lt_blen b
      have h3 := Nat.mul_lt_mul'' h1 h2
      rw [← Nat.pow_add, ← l1, ← l2] at h3
      have h4 : 256 ^ (s.size + t.size) ≤ 256 ^ 8 := Nat.pow_le_pow_right (by omega) h8
      omega
    have q : (a : Int) * (b : Int) = ((a * b : Nat) : Int) := (Int.natCast_mul a b).symm
    have HN1 := Lib.hid n1; clear n1
    have HN2 := Lib.hid n2; clear n2
    have Q := Lib.hid q
    clear hs ht l1 l2 q z1 z2
    have d8 : decide ((s.size : Int) + (t.size : Int) ≤ 8) = true := decide_eq_true (by omega)
    go_enter Tryz.func88, Tryz.ntmps88
    go_wp2_with fail
    refine (refU64_any s _ (by omega)).mono ?_
    rw [HN1.out]
    rintro e w1 ⟨rfl, rfl⟩
    go_wp2_with fail
    refine (refU64_any t _ (by omega)).mono ?_
    rw [HN2.out]
    rintro e w1 ⟨rfl, rfl⟩
    go_wp2_with fail
    rw [Q.out]
    refine (refOf_any (a * b) _ hlt).mono ?_
    rintro e w1 ⟨rfl, hb⟩
    go_wp2_with fail
    go_ret
    exact ⟨rfl, hb⟩
theorem refFit_any (n : Nat) (w : World) (hn : blen n ≤ 1000000) :
    Calls Tryz.prog 87 #[.string (enc n)] w fun e w' => e = .returned (.tuple #[.string (fitS n), .int .i64 (fitE n)]) ∧ w = w' := by
  have hs := size_enc n
  by_cases h : blen n ≤ 128
  · rw [fitS_ok h, fitE_ok h]
    rw [← hs] at h hn
    have HS := Lib.hid hs; clear hs
    go_enter Tryz.func87, Tryz.ntmps87
    go_wp2
    go_ret2
    exact ⟨rfl, rfl⟩
  · have e1 : fitS n = ⟨#[]⟩ := if_neg h
    have e2 : fitE n = 5 := if_neg h
    rw [e1, e2]; clear e1 e2
    rw [← hs] at h hn
    have HS := Lib.hid hs; clear hs
    go_enter Tryz.func87, Tryz.ntmps87
    go_wp2
    go_ret2
    exact ⟨rfl, rfl⟩
theorem refAdd_any (s t : ByteArray) (a b : Nat) (w : World) (hs : IsN s a) (ht : IsN t b) :
    Calls Tryz.prog 83 #[.string s, .string t] w fun e w' => e = .returned (.tuple #[.string (fitS (a + b)), .int .i64 (fitE (a + b))]) ∧ Below w.heap.size w w' := by
  have v1 := hs.valid
  have v2 := ht.valid
  have z1 := hs.small
  have z2 := ht.small
  have hbl : blen (a + b) ≤ 1000000 := by
    have h1 := hs.lt
    have h2 := ht.lt
    have : blen (a + b) ≤ 129 := by rw [blen_le_iff, Nat.pow_succ]; omega
    omega
  have HB := Lib.hid hbl; clear hbl
  have HS := Lib.hid hs.eq; clear hs
  have HT := Lib.hid ht.eq; clear ht
  go_enter Tryz.func83, Tryz.ntmps83
  go_wp2_with fail
  refine (refValid_any _ _).mono ?_; rw [v1]; rintro e w' ⟨rfl, rfl⟩
  go_wp2_with fail
  refine (refValid_any _ _).mono ?_; rw [v2]; rintro e w' ⟨rfl, rfl⟩
  go_wp2_with fail
  refine (refPlus_any s t a b _ HS.out HT.out (by omega) (by omega)).mono ?_; rintro e w' ⟨rfl, hb⟩
  go_wp2_with fail
  refine (refFit_any _ _ HB.out).mono ?_; rintro e w' ⟨rfl, rfl⟩
  go_wp2_with fail
  go_ret2
  exact ⟨rfl, hb⟩
theorem refSub_any (s t : ByteArray) (a b : Nat) (w : World) (hs : IsN s a) (ht : IsN t b) (h : b ≤ a) :
    Calls Tryz.prog 84 #[.string s, .string t] w fun e w' => e = .returned (.tuple #[.string (enc (a - b)), .int .i64 0]) ∧ Below w.heap.size w w' := by
  have v1 := hs.valid
  have v2 := ht.valid
  have z1 := hs.small
  have z2 := ht.small
  have d1 : decide (ncmp a b < 0) = false := decide_eq_false (by rw [ncmp_lt]; omega)
  have H := Lib.hid h; clear h
  have HS := Lib.hid hs.eq; clear hs
  have HT := Lib.hid ht.eq; clear ht
  go_enter Tryz.func84, Tryz.ntmps84
  go_wp2_with fail
  refine (refValid_any _ _).mono ?_; rw [v1]; rintro e w' ⟨rfl, rfl⟩
  go_wp2_with fail
  refine (refValid_any _ _).mono ?_; rw [v2]; rintro e w' ⟨rfl, rfl⟩
  go_wp2_with fail
  refine (refOrder_any s t a b _ HS.out HT.out (by omega) (by omega)).mono ?_; rintro e w1 ⟨rfl, hb1⟩
  go_wp2_with fail
  refine (refMinus_any s t a b _ HS.out HT.out H.out (by omega)).mono ?_; rintro e w' ⟨rfl, hb⟩
  go_wp2_with fail
  go_ret2
  exact ⟨rfl, hb1.trans (hb.mono hb1.size)⟩
theorem refMul_any (s t : ByteArray) (a b : Nat) (w : World) (hs : IsN s a) (ht : IsN t b) :
    Calls Tryz.prog 55 #[.string s, .string t] w fun e w' => e = .returned (.tuple #[.string (fitS (a * b)), .int .i64 (fitE (a * b))]) ∧ Below w.heap.size w w' := by
  have v1 := hs.valid
  have v2 := ht.valid
  have z1 := hs.small
  have z2 := ht.small
  have hbl : blen (a * b) ≤ 1000000 := by
    have h1 := hs.lt
    have h2 := ht.lt
    have h3 := Nat.mul_lt_mul'' h1 h2
    rw [← Nat.pow_add] at h3
    have : blen (a * b) ≤ 256 := by rw [blen_le_iff]; exact h3
    omega
  have HB := Lib.hid hbl; clear hbl
  have HS := Lib.hid hs.eq; clear hs
  have HT := Lib.hid ht.eq; clear ht
  go_enter Tryz.func55, Tryz.ntmps55
  go_wp2_with fail
  refine (refValid_any _ _).mono ?_; rw [v1]; rintro e w' ⟨rfl, rfl⟩
  go_wp2_with fail
  refine (refValid_any _ _).mono ?_; rw [v2]; rintro e w' ⟨rfl, rfl⟩
  go_wp2_with fail
  refine (refTimes_any s t a b _ HS.out HT.out (by omega) (by omega)).mono ?_; rintro e w' ⟨rfl, hb⟩
  go_wp2_with fail
  refine (refFit_any _ _ HB.out).mono ?_; rintro e w' ⟨rfl, rfl⟩
  go_wp2_with fail
  go_ret2
  exact ⟨rfl, hb⟩
theorem refDivMod_any (s t : ByteArray) (a b : Nat) (w : World) (hs : IsN s a) (ht : IsN t b) (h0 : 0 < b) :
    Calls Tryz.prog 27 #[.string s, .string t] w fun e w' => e = .returned (.tuple #[.string (enc (a / b)), .string (enc (a % b)), .int .i64 0]) ∧ Below w.heap.size w w' := by
  have v1 := hs.valid
  have v2 := ht.valid
  have z1 := hs.small
  have z2 := ht.small
  have ne := (ht.notEmpty h0).1
  have ne' : t.toList.isEmpty = false := by rw [ht.eq]; exact toList_enc_nil h0
  have HS := Lib.hid hs.eq; clear hs
  have HT := Lib.hid ht.eq; clear ht
  go_enter Tryz.func27, Tryz.ntmps27
  go_wp2_with fail
  refine (refValid_any _ _).mono ?_; rw [v1]; rintro e w' ⟨rfl, rfl⟩
  go_wp2_with fail
  refine (refValid_any _ _).mono ?_; rw [v2]; rintro e w' ⟨rfl, rfl⟩
  go_wp2_with fail
  refine (refOver_any s t a b _ HS.out HT.out h0 (by omega) (by omega)).mono ?_; rintro e w' ⟨rfl, hb⟩
  go_wp2_with fail
  go_ret3
  exact ⟨rfl, hb⟩
theorem refSmall_yes (s : ByteArray) (a : Nat) (w : World) (hs : IsN s a) (h : s.size ≤ 8) :
    Calls Tryz.prog 54 #[.string s] w fun e w' => e = .returned (.tuple #[.int .u64 (a : Int), .bool true]) ∧ w = w' := by
  have v1 := hs.valid
  have n1 := hs.nv
  have N1 := Lib.hid n1
  clear n1 hs
  go_enter Tryz.func54, Tryz.ntmps54
  go_wp2_with fail
  refine (refValid_any _ _).mono ?_; rw [v1]; rintro e w' ⟨rfl, rfl⟩
  go_wp2_with fail
  refine (refU64_any s _ h).mono ?_; rw [N1.out]; rintro e w' ⟨rfl, rfl⟩
  go_wp2_with fail
  go_ret2
  exact ⟨rfl, rfl⟩
theorem refSmall_no (s : ByteArray) (a : Nat) (w : World) (hs : IsN s a) (h : 8 < s.size) :
    Calls Tryz.prog 54 #[.string s] w fun e w' => e = .returned (.tuple #[.int .u64 0, .bool false]) ∧ w = w' := by
  have v1 := hs.valid
  clear hs
  go_enter Tryz.func54, Tryz.ntmps54
  go_wp2_with fail
  refine (refValid_any _ _).mono ?_; rw [v1]; rintro e w' ⟨rfl, rfl⟩
  go_wp2_with fail
  go_ret2
  exact ⟨rfl, rfl⟩
theorem refBits_any (s : ByteArray) (a : Nat) (w : World) (hs : IsN s a) :
    Calls Tryz.prog 68 #[.string s] w fun e w' => e = .returned (.int .i64 (bl a : Int)) ∧ w = w' := by
  have v1 := hs.valid
  have z1 := hs.small
  have HS := Lib.hid hs.eq; clear hs
  go_enter Tryz.func68, Tryz.ntmps68
  go_wp2_with fail
  refine (refValid_any _ _).mono ?_; rw [v1]; rintro e w' ⟨rfl, rfl⟩
  go_wp2_with fail
  refine (refbits_any s a _ HS.out (by omega)).mono ?_; rintro e w' ⟨rfl, rfl⟩
  go_wp2_with fail
  go_ret
  exact ⟨rfl, rfl⟩
theorem refBit_any (s : ByteArray) (a i : Nat) (w : World) (hs : IsN s a) (hi : i ≤ 1000000) :
    Calls Tryz.prog 69 #[.string s, .int .i64 (i : Int)] w fun e w' => e = .returned (.bool (tb a i)) ∧ w = w' := by
  have v1 := hs.valid
  have z1 := hs.small
  have n1 := hs.nv
  have tbl := tb_bl a i
  have N1 := Lib.hid n1; clear n1
  have HS := Lib.hid hs.eq; clear hs
  have TB := Lib.hid tbl; clear tbl
  by_cases h : i < bl a
  · have d1 : decide ((i : Int) < (bl a : Int)) = true := decide_eq_true (by omega)
    go_enter Tryz.func69, Tryz.ntmps69
    go_wp2_with fail
    refine (refValid_any _ _).mono ?_; rw [v1]; rintro e w' ⟨rfl, rfl⟩
    go_wp2_with fail
    refine (refbits_any s a _ HS.out (by omega)).mono ?_; rintro e w' ⟨rfl, rfl⟩
    go_wp2_with fail
    refine (refone_any s i _ (by omega) hi).mono ?_; rw [N1.out]; rintro e w' ⟨rfl, rfl⟩
    go_wp2_with fail
    go_ret
    exact ⟨rfl, rfl⟩
  · have d1 : decide ((i : Int) < (bl a : Int)) = false := decide_eq_false (by omega)
    go_enter Tryz.func69, Tryz.ntmps69
    go_wp2_with fail
    refine (refValid_any _ _).mono ?_; rw [v1]; rintro e w' ⟨rfl, rfl⟩
    go_wp2_with fail
    refine (refbits_any s a _ HS.out (by omega)).mono ?_; rintro e w' ⟨rfl, rfl⟩
    go_wp2_with fail
    go_ret
    exact ⟨ret_bool (TB.out (by omega)).symm, rfl⟩
end Go.Proofs.YtoocpmmgoljncaaGreat
