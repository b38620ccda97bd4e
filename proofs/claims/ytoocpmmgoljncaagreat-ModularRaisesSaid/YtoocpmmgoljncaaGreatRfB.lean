/- Contracts of the reference of layer 1: bits, one, Over, DivMod. -/
import Derived.Test.YtoocpmmgoljncaaGreatRfA
import Derived.Test.YtoocpmmgoljncaaGreatBl
import Derived.Test.YtoocpmmgoljncaaGreatNatE
namespace Go.Proofs.YtoocpmmgoljncaaGreat
open Go.RowKit Num
set_option maxRecDepth 20000
set_option linter.unusedVariables false

theorem toList_ne {s : ByteArray} (h0 : s.size ≠ 0) : (s.toList = [] → False) ∧ s.toList.isEmpty = false := by
  have e1 : s.toList = [] → False := fun e => h0 (by
    rw [ByteArray.toList_eq] at e
    show s.data.size = 0
    rw [← Array.length_toList, e]; rfl)
  refine ⟨e1, ?_⟩
  cases hh : s.toList with
  | nil => exact (e1 hh).elim
  | cons a l => rfl
theorem refbits_any (s : ByteArray) (a : Nat) (w : World) (hs : s = enc a) (hl : s.size ≤ 10000) :
    Calls Tryz.prog 89 #[.string s] w fun e w' => e = .returned (.int .i64 ((bl a : Nat) : Int)) ∧ w = w' := by
  have hsz : s.size = blen a := by rw [hs, size_enc]
  rcases Nat.eq_zero_or_pos a with h0 | h0
  · subst h0
    obtain rfl : s = ⟨#[]⟩ := hs
    clear hsz
    go_enter Tryz.func89, Tryz.ntmps89
    go_wp2
    go_ret
    exact ⟨rfl, rfl⟩
  · have hp : s.size ≠ 0 := by rw [hsz]; have := blen_eq_zero a; omega
    obtain ⟨e1, e2⟩ := toList_ne hp
    have hp2 : 0 < s.size := by omega
    have hb : bl a = 8 * (s.size - 1) + bl (s[0]'hp2).toNat := by
      have hc : Canon s := by rw [hs]; exact canon_enc a
      have hn : nv s = a := by rw [hs, nv_enc]
      obtain ⟨d⟩ := s
      obtain ⟨l⟩ := d
      cases l with
      | nil => simp [ByteArray.size] at hp
      | cons x l =>
        have hx : x ≠ 0 := by simpa [Canon] using hc
        have := bl_cons x l hx
        have hn' : nvL (x :: l) = a := hn
        rw [hn'] at this
        rw [this]
        show _ = 8 * ((x :: l).length - 1) + bl x.toNat
        rfl
    have hx := (s[0]'hp2).toNat_lt
    have HB := Lib.hid hb
    clear hb hs hsz
    obtain ⟨x, hx0⟩ : ∃ x, (s[0]'hp2).toNat = x := ⟨_, rfl⟩
    rw [hx0] at hx HB
    go_enter Tryz.func89, Tryz.ntmps89
    go_wp2
    have hbl : bl a ≤ 80008 := by
      have := (bl_le_iff x 8).2 hx
      have := HB.out
      omega
    have HBL := Lib.hid hbl
    clear hbl
    go_loop [3, 4] (fun n v => ∃ y c : Nat, v = .int .i64 y ∧ n = .int .i64 c ∧ Hid (c + bl y = bl a) ∧ y ≤ 255) (fun _ v => (intOf v).toNat)
    case atStart => exact ⟨x, 8 * (s.size - 1), rfl, by congr 1; omega, HB.out.symm, by omega⟩
    case round =>
      obtain ⟨y, c, rfl, rfl, hc, hy⟩ := hrel
      by_cases h : y = 0
      · subst h
        have hc2 : c = bl a := by simpa [bl] using hc.out
        have HC := Lib.hid hc2
        clear hc hc2
        go_wp2
        go_ret
        exact ⟨ret_int (by rw [HC.out]), rfl⟩
      · have hh := bl_half y h
        have hc2 : c + 1 + bl (y / 2) = bl a := by rw [← hc.out, hh]; omega
        have hc3 : c + 1 ≤ 80008 := by have := HBL.out; omega
        have HC := Lib.hid hc2
        clear hc hc2 hh
        go_wp2
        exact ⟨⟨y / 2, c + 1, by simp, by go_num, HC.out, by omega⟩, by simp [intOf]; omega⟩
theorem refone_any (s : ByteArray) (i : Nat) (w : World) (hs : s.size ≤ 10000) (hi : i ≤ 1000000) :
    Calls Tryz.prog 91 #[.string s, .int .i64 (i : Int)] w fun e w' => e = .returned (.bool (tb (nv s) i)) ∧ w = w' := by
  have hm : (i : Int).tmod 8 = ((i % 8 : Nat) : Int) := by rw [Int.tmod_eq_emod_of_nonneg (by omega)]; simp
  have hq : (i : Int).tdiv 8 = ((i / 8 : Nat) : Int) := by rw [Int.tdiv_eq_ediv_of_nonneg (by omega)]; simp
  have hd := dg_bit (nv s) i
  have d0 := dg_nonneg (nv s) (i / 8)
  have d1 := dg_le (nv s) (i / 8)
  have HD := Lib.hid hd
  clear hd
  go_enter Tryz.func91, Tryz.ntmps91
  go_wp2_with (go_at_call 104; refine (refAt_any _ _ _ (by omega) (by omega)).mono ?_; rintro e w' ⟨rfl, rfl⟩)
  go_loop [5, 6] (fun x k => ∃ j : Nat, j ≤ i % 8 ∧ k = .int .i64 j ∧ x = .int .i64 (dg (nv s) (i / 8) / 2 ^ j)) (fun _ k => i % 8 - (intOf k).toNat)
  case atStart => exact ⟨0, by omega, rfl, by rw [show ((i : Int) / 8).toNat = i / 8 from by omega]; simp⟩
  case round =>
    obtain ⟨j, hj, rfl, rfl⟩ := hrel
    by_cases hlt : j < i % 8
    · have g0 : 0 ≤ dg (nv s) (i / 8) / 2 ^ j := Int.ediv_nonneg d0 (Int.pow_nonneg (by omega))
      have g1 : dg (nv s) (i / 8) / 2 ^ j ≤ 255 := Int.le_trans (Int.ediv_le_self _ d0) d1
      have g2 : dg (nv s) (i / 8) / 2 ^ (j + 1) = dg (nv s) (i / 8) / 2 ^ j / 2 := by rw [Int.pow_succ, Int.ediv_ediv_of_nonneg (Int.pow_nonneg (by omega))]
      have G2 := Lib.hid g2
      clear g2
      go_wp2
      exact ⟨⟨j + 1, by omega, by go_num, by rw [G2.out]⟩, by simp [intOf]; omega⟩
    · obtain rfl : j = i % 8 := by omega
      have g0 : 0 ≤ dg (nv s) (i / 8) / 2 ^ (i % 8) := Int.ediv_nonneg d0 (Int.pow_nonneg (by omega))
      have g1 : dg (nv s) (i / 8) / 2 ^ (i % 8) ≤ 255 := Int.le_trans (Int.ediv_le_self _ d0) d1
      have hr : tb (nv s) i = (dg (nv s) (i / 8) / 2 ^ (i % 8) % 2 == 1) := by
        rw [HD.out]
        unfold tb
        rw [Bool.eq_iff_iff, decide_eq_true_eq, beq_iff_eq]
        omega
      have HR := Lib.hid hr
      clear hr
      go_wp2
      go_ret
      exact ⟨ret_bool HR.out.symm, rfl⟩

theorem refOf_int (x : Int) (w : World) (h0 : 0 ≤ x) (h : x < 18446744073709551616) :
    Calls Tryz.prog 24 #[.int .u64 x] w fun e w' => e = .returned (.string (encI x)) ∧ Below w.heap.size w w' := by
  obtain ⟨n, rfl⟩ := Int.eq_ofNat_of_zero_le h0
  exact refOf_any n w (by omega)
theorem refOf_quo (a b : Nat) (w : World) (h : a / b < 18446744073709551616) :
    Calls Tryz.prog 24 #[.int .u64 (IntKind.u64.wrap ((a : Int) / (b : Int)))] w fun e w' => e = .returned (.string (enc (a / b))) ∧ Below w.heap.size w w' := by
  have := refOf_int (IntKind.u64.wrap ((a : Int) / (b : Int))) w (wrapu_nonneg _) (wrapu_lt _)
  rw [encI_quo a b h] at this; exact this
theorem refOf_tmod (a b : Nat) (w : World) (h0 : 0 < b) (h : b < 18446744073709551616) :
    Calls Tryz.prog 24 #[.int .u64 ((a : Int).tmod (b : Int))] w fun e w' => e = .returned (.string (enc (a % b))) ∧ Below w.heap.size w w' := by
  have := refOf_int ((a : Int).tmod (b : Int)) w (tmod_nonneg a b) (tmod_lt a b h0 h)
  rw [encI_mod a b] at this; exact this
theorem refOf_mod (a b : Nat) (w : World) (h0 : 0 < b) (h : b < 18446744073709551616) :
    Calls Tryz.prog 24 #[.int .u64 ((a : Int) % (b : Int))] w fun e w' => e = .returned (.string (enc (a % b))) ∧ Below w.heap.size w w' := by
  rw [← Int.tmod_eq_emod_of_nonneg (by omega)]; exact refOf_tmod a b w h0 h
namespace Num
theorem over_lt {A z b r rr d i : Nat} (h1 : A = 2 * z + d) (hr : z % b = r) (h2 : rr = 2 * r + d) (hd : d ≤ 1) (hb : 0 < b) (h : ¬ b ≤ rr) : A % b = rr ∧ A / b * 2 ^ i = z / b * 2 ^ (i + 1) := by
  obtain ⟨h3, h4⟩ := (div_bit z b d hd hb).1 (by omega)
  rw [h1, h4, h3, hr, Nat.pow_succ, h2]
  refine ⟨rfl, ?_⟩
  rw [Nat.mul_comm 2, Nat.mul_assoc, Nat.mul_comm 2]
theorem over_ge {A z b r rr d i : Nat} (h1 : A = 2 * z + d) (hr : z % b = r) (h2 : rr = 2 * r + d) (hd : d ≤ 1) (hb : 0 < b) (h : b ≤ rr) : A % b = rr - b ∧ A / b * 2 ^ i = z / b * 2 ^ (i + 1) + 2 ^ i := by
  obtain ⟨h3, h4⟩ := (div_bit z b d hd hb).2 (by omega)
  rw [h1, h4, h3, hr, Nat.pow_succ, h2]
  refine ⟨rfl, ?_⟩
  rw [Nat.add_mul, Nat.mul_comm 2, Nat.mul_assoc, Nat.mul_comm 2, Nat.one_mul]
theorem over_row {N i y z : Nat} {f : Nat → Int} {v : Int} (hi : i / 8 < N) (hf : ∀ m, m < N → f m = dg (y * 2 ^ (i + 1)) (N - 1 - m)) (hz : z = y * 2 ^ (i + 1) + 2 ^ i) (hv : v = f (N - 1 - i / 8) + (2 ^ (i % 8) : Nat)) :
    ∀ m, m < N → upd f (N - 1 - i / 8) v m = dg z (N - 1 - m) := by
  intro m hm
  rw [hz, dg_addp]
  by_cases e : m = N - 1 - i / 8
  · rw [e, upd_same, if_pos (by omega), hv, hf _ (by omega)]
    simp
  · rw [upd_other _ _ e, if_neg (by omega), hf m hm]
end Num
theorem enc_one : enc 1 = ⟨#[1]⟩ := by decide +kernel
set_option maxHeartbeats 2000000 in
theorem refOver_any (s t : ByteArray) (a b : Nat) (w : World) (hs : s = enc a) (ht : t = enc b) (h0 : 0 < b) (ls : s.size ≤ 1000) (lt : t.size ≤ 1000) :
    Calls Tryz.prog 56 #[.string s, .string t] w fun e w' => e = .returned (.tuple #[.string (enc (a / b)), .string (enc (a % b))]) ∧ Below w.heap.size w w' := by
  have n1 : nv s = a := by rw [hs, nv_enc]
  have n2 : nv t = b := by rw [ht, nv_enc]
  have l1 : s.size = blen a := by rw [hs, size_enc]
  have l2 : t.size = blen b := by rw [ht, size_enc]
  by_cases hsh : s.size ≤ 8 ∧ t.size ≤ 8
  · obtain ⟨h1, h2⟩ := hsh
    have ba : a < 18446744073709551616 := (blen_le_iff a 8).1 (by omega)
    have bb : b < 18446744073709551616 := (blen_le_iff b 8).1 (by omega)
    have nz : ((b : Int) == 0) = false := by rw [beq_eq_false_iff_ne]; omega
    have nz2 : ¬ ((b : Int) = 0) := by omega
    have hd : a / b < 18446744073709551616 := Nat.lt_of_le_of_lt (Nat.div_le_self a b) ba
    have HN1 := Lib.hid n1
    have HN2 := Lib.hid n2
    have HD := Lib.hid hd
    clear n1 n2 l1 l2 hs ht hd
    go_enter Tryz.func56, Tryz.ntmps56
    go_wp2_with fail
    refine (refU64_any _ _ h1).mono ?_; rintro e w' ⟨rfl, rfl⟩
    go_wp2_with fail
    refine (refU64_any _ _ h2).mono ?_; rintro e w' ⟨rfl, rfl⟩
    rw [HN1.out, HN2.out]
    go_wp2_with fail
    go_region_with (first | (go_at_call 24; (with_reducible refine (refOf_quo _ _ _ HD.out).mono ?_); rintro e w' ⟨rfl, hw1⟩) | (go_at_call 24; (with_reducible refine (refOf_tmod _ _ _ h0 bb).mono ?_); rintro e w' ⟨rfl, hw2⟩) | (go_at_call 24; (with_reducible refine (refOf_mod _ _ _ h0 bb).mono ?_); rintro e w' ⟨rfl, hw2⟩))
    all_goals
      go_wp2_with fail
      go_ret2
      exact ⟨rfl, ((Below.refl w.heap.size w).drew.trans hw1).trans (hw2.mono hw1.size)⟩
  · have hbl : bl a ≤ 8000 := by
      have : bl a ≤ 8 * s.size := by
        rw [bl_le_iff, Nat.pow_mul, l1]; exact lt_blen a
      omega
    have hbits := refbits_any s a w hs (by omega)
    have hex : a < 256 ^ s.size := by rw [l1]; exact lt_blen a
    have hsm : s.size ≤ 8 → t.size ≤ 8 → False := fun x y => hsh ⟨x, y⟩
    have HN1 := Lib.hid n1
    have HN2 := Lib.hid n2
    have HL1 := Lib.hid l1
    have HL2 := Lib.hid l2
    have HS := Lib.hid hs
    have HT := Lib.hid ht
    have HEX := Lib.hid hex
    obtain ⟨i0, hi, hz0, hz1, hz2⟩ := info_parts info_u8
    clear n1 n2 l1 l2 hs ht hex hsh
    have sp : s.size ≤ 8 ∨ 8 < s.size := by omega
    have hbs : bl a ≤ 8 * s.size := by
      rw [bl_le_iff, Nat.pow_mul]; exact HEX.out
    have HBS := Lib.hid hbs
    clear hbs hbits
    have hbs : ∀ w : World, Calls Tryz.prog 89 #[.string s] w fun e w' => e = .returned (.int .i64 ((bl a : Nat) : Int)) ∧ w = w' := fun w => refbits_any s a w HS.out (by omega)
    have hrs : ∀ z, (enc (z % b)).size ≤ 1000 := fun z => by
      rw [size_enc]
      exact Nat.le_trans (blen_mono (Nat.le_of_lt (Nat.mod_lt z h0))) (by rw [← HL2.out]; exact lt)
    have HRS := Lib.hid hrs
    have HB := Lib.hid hbs
    clear hrs hbs
    rcases sp with sp | sp
    all_goals
      go_enter Tryz.func56, Tryz.ntmps56
      go_wp2_with (first | (exact (hsm (by omega) (by omega)).elim) | (at_make; refine wpList_make_arr _ rfl _ _ _ rfl 5 i0 .u8 1 Tryz.underlying76 hi hz0 hz1 hz2 _ _ _ _ s.size rfl rfl ?_ ?_ ?_ ?_ ?_ <;> first | (intro w1 ha hb hsz) | omega | (unfold maxLen; omega)))
      refine (HB.out _).mono ?_; rintro e w' ⟨rfl, rfl⟩
      go_wp2_with fail
      clear hi hz0 hz1 hz2
      go_loopw [9, 10] (fun r i wr => ∃ (j : Nat) (x : Int) (f : Nat → Int), j ≤ bl a ∧ i = .int .i64 x ∧ Hid (x = (j : Int) - 1) ∧ r = .string (enc (a / 2 ^ j % b)) ∧ Arr wr w.heap.size 5 .u8 s.size f ∧
          Hid (∀ m, m < s.size → f m = dg (a / 2 ^ j / b * 2 ^ j) (s.size - 1 - m)) ∧ Below w.heap.size w wr)
        (fun _ i _ => (intOf i + 1).toNat)
      case atStart => exact ⟨bl a, _, _, Nat.le_refl _, rfl, rfl, by rw [Nat.div_eq_of_lt (lt_bl a), Nat.zero_mod]; rfl, ha, by intro m _; rw [Nat.div_eq_of_lt (lt_bl a)]; simp [dg], hb⟩
      case round =>
        clear ha hb hsz
        obtain ⟨j, x, f, hj, rfl, hx, rfl, ha, hf, hb⟩ := hrel
        rcases j with _ | i
        · obtain rfl : x = -1 := by have := hx.out; simpa using this
          clear hx
          simp only [Nat.pow_zero, Nat.div_one, Nat.mul_one] at hf ⊢
          have hq : a / b < 256 ^ s.size := Nat.lt_of_le_of_lt (Nat.div_le_self a b) HEX.out
          have HQ := Lib.hid hq
          clear hq
          go_wp2_with fail
          refine (refTrim_arr wr w.heap.size s.size (a / b) f _ ha (by omega) hf.out HQ.out).mono ?_
          rintro e w' ⟨rfl, rfl⟩
          go_wp2_with fail
          go_ret2
          exact ⟨rfl, hb⟩
        · obtain rfl : x = i := by have := hx.out; omega
          clear hx
          have hbs := HBS.out
          obtain ⟨z, hz⟩ : ∃ z, a / 2 ^ (i + 1) = z := ⟨_, rfl⟩
          have hhb := half_bit a i
          have htv := tb_val a i
          rw [hz] at hf hhb ⊢
          have HHB := Lib.hid hhb
          have HTV := Lib.hid htv
          have hrz := HRS.out z
          obtain ⟨r, hr⟩ : ∃ r, z % b = r := ⟨_, rfl⟩
          have HRR := Lib.hid hr
          have hrb : r < b := by rw [← hr]; exact Nat.mod_lt _ h0
          rw [hr] at hrz ⊢
          clear hz hhb htv hr
          have hone : ∀ w : World, Calls Tryz.prog 91 #[.string s, .int .i64 (i : Int)] w fun e w' => e = .returned (.bool (tb a i)) ∧ w = w' := fun w => by
            have := refone_any s i w (by omega) (by omega)
            rw [HN1.out] at this; exact this
          have HONE := Lib.hid hone
          clear hone
          have zb := hb.size
          go_wp2_with fail
          refine (refPlus_any (enc r) (enc r) r r _ rfl rfl (by omega) (by omega)).mono ?_; rintro e w2 ⟨rfl, hb2⟩
          go_wp2_with fail
          refine (HONE.out _).mono ?_; rintro e w' ⟨rfl, rfl⟩
          have ha2 := ha.below hb2 ha.lt
          have hb3 := hb.trans (hb2.mono zb)
          clear ha hb hb2 HONE
          have hrl : (enc (r + r)).size ≤ 1001 := by
            have h1 : blen (r + r) ≤ blen b + 1 := by rw [blen_le_iff, Nat.pow_succ]; have := lt_blen b; omega
            rw [size_enc]; have := HL2.out; omega
          obtain ⟨d, hd⟩ : ∃ d, a / 2 ^ i % 2 = d := ⟨_, rfl⟩
          rw [hd] at HHB HTV
          have hd1 : d ≤ 1 := by omega
          clear hd
          have zc := hb3.size
          have hfin : Hid (∀ (rr : Nat), True) := fun _ => trivial
          clear hfin
          rcases Bool.eq_false_or_eq_true (tb a i) with hbit | hbit
          all_goals
            rw [hbit] at HTV ⊢
            clear hbit
            first
              | (obtain rfl : d = 1 := HTV.out
                 go_wp2_with fail
                 refine (refPlus_any (enc (r + r)) ⟨#[1]⟩ (r + r) 1 _ rfl enc_one.symm (by omega) (by decide)).mono ?_; rintro e w3 ⟨rfl, hb4⟩
                 have ha3 := ha2.below hb4 ha2.lt
                 have hb5 := hb3.trans (hb4.mono zc)
                 obtain ⟨rr, hrr⟩ : ∃ rr, r + r + 1 = rr := ⟨_, rfl⟩
                 rw [hrr]
                 have hr2 : Hid (rr = 2 * r + 1) := by show _ = _; omega
                 clear hrr ha2 hb3 hb4
                 go_wp2_with fail)
              | (obtain rfl : d = 0 := HTV.out
                 go_wp2_with fail
                 obtain ⟨w3, rfl⟩ : ∃ w3, w3 = w2 := ⟨_, rfl⟩
                 have ha3 := ha2
                 have hb5 := hb3
                 obtain ⟨rr, hrr⟩ : ∃ rr, r + r = rr := ⟨_, rfl⟩
                 rw [hrr]
                 have hr2 : Hid (rr = 2 * r + 0) := by show _ = _; omega
                 clear hrr ha2 hb3)
            have hrl2 : (enc rr).size ≤ 1001 := by
              have h1 : blen rr ≤ blen b + 1 := by rw [blen_le_iff, Nat.pow_succ]; have := lt_blen b; have := hr2.out; omega
              rw [size_enc]; have := HL2.out; omega
            have zd := hb5.size
            refine (refOrder_any (enc rr) t rr b _ rfl HT.out (by omega) (by omega)).mono ?_; rintro e w4 ⟨rfl, hb6⟩
            have ha4 := ha3.below hb6 ha3.lt
            have hb7 := hb5.trans (hb6.mono zd)
            have ze := hb7.size
            clear ha3 hb5 hb6
            by_cases hge : b ≤ rr
            · have hc := (ncmp_ge rr b).2 hge
              go_wp2_with fail
              refine (refMinus_any (enc rr) t rr b _ rfl HT.out hge (by omega)).mono ?_; rintro e w6 ⟨rfl, hb8⟩
              have ha5 := ha4.below hb8 ha4.lt
              have hb9 := hb7.trans (hb8.mono ze)
              clear ha4 hb7 hb8 hc
              have HGE := Lib.hid hge
              clear hge
              go_wp2_with fail
              go_loop [11, 12] (fun k v => ∃ m p : Nat, m ≤ i % 8 ∧ v = .int .i64 m ∧ k = .int .u8 (p : Int) ∧ Hid (2 ^ m = p)) (fun _ v => i % 8 - (intOf v).toNat)
              case atStart => exact ⟨0, 1, by omega, rfl, rfl, rfl⟩
              case round =>
                obtain ⟨m, p, hm, rfl, rfl, hp⟩ := hrel
                have hpm : 1 ≤ p ∧ p ≤ 2 ^ (i % 8) := by
                  rw [← hp.out]
                  exact ⟨Nat.two_pow_pos m, Nat.pow_le_pow_right (by omega) hm⟩
                by_cases hmi : m < i % 8
                · have hp64 : p ≤ 64 := by
                    rw [← hp.out]
                    exact Nat.pow_le_pow_right (n := 2) (j := 6) (by omega) (by omega)
                  have hp2 : 2 ^ (m + 1) = p * 2 := by rw [Nat.pow_succ, hp.out]
                  have HP2 := Lib.hid hp2
                  clear hp2 hp hpm
                  go_wp2_with fail
                  exact ⟨⟨m + 1, p * 2, by omega, by go_num, by go_num, HP2.out⟩, by simp [intOf]; omega⟩
                · obtain rfl : m = i % 8 := by omega
                  have hp128 : p ≤ 128 := by
                    rw [← hp.out]
                    exact Nat.pow_le_pow_right (n := 2) (j := 7) (by omega) (by omega)
                  have hn : s.size - 1 - i / 8 < s.size := by omega
                  have hni : i / 8 < s.size := by omega
                  have hcell := ha5.cell hn
                  have hfree := ha5.free (s.size - 1 - i / 8)
                  obtain ⟨y, hy⟩ : ∃ y, f (s.size - 1 - i / 8) = y := ⟨_, rfl⟩
                  rw [hy] at hcell
                  have hyd : y = dg (z / b * 2 ^ (i + 1)) (i / 8) := by
                    rw [← hy, hf.out _ hn]; congr 1; omega
                  have y0 : 0 ≤ y := by rw [hyd]; exact dg_nonneg _ _
                  have y1 : y + (p : Int) ≤ 255 := by
                    have := dg_mulp (z / b) i
                    rw [hyd, ← hp.out]; simpa using this
                  have hov := over_ge (i := i) HHB.out HRR.out hr2.out hd1 h0 HGE.out
                  have hrow := over_row (v := y + (p : Int)) hni hf.out hov.2 (by rw [hy, hp.out])
                  have HOV := Lib.hid hov.1
                  have HROW := Lib.hid hrow
                  clear hov hrow hp hyd hy hf hpm
                  have x1 : ((i : Int) / 8).toNat = i / 8 := by omega
                  have x2 : ((s.size : Int) - 1 - (i : Int) / 8).toNat = s.size - 1 - i / 8 := by omega
                  go_wp2_with fail
                  exact ⟨⟨i, _, _, by omega, rfl, rfl, by rw [HOV.out], ha5.set _ _, HROW.out, hb9.setCell (Nat.le_refl _) _⟩, by simp [intOf]⟩
            · have hc := (ncmp_lt rr b).2 (by omega)
              have hov := over_lt (i := i) HHB.out HRR.out hr2.out hd1 h0 hge
              have HOV := Lib.hid hov
              clear hov
              go_wp2_with fail
              exact ⟨⟨i, _, f, by omega, rfl, rfl, by rw [HOV.out.1], ha4, by rw [HOV.out.2]; exact hf.out, hb7⟩, by simp [intOf]⟩
end Go.Proofs.YtoocpmmgoljncaaGreat
