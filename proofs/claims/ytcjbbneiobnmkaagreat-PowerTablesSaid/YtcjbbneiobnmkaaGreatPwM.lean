/- The law Tables of layer 13. -/
import Derived.Test.YtcjbbneiobnmkaaGreatPwL
namespace Go.Proofs.YtcjbbneiobnmkaaGreat
open Go.RowKit Num
set_option maxRecDepth 20000
set_option linter.unusedVariables false
theorem i64_and1023 (n : Int) : ∃ q : Nat, q < 1024 ∧ bits .and .i64 n 1023 = (q : Int) := by
  have h255 : (BitVec.ofInt 64 1023).toNat = 2 ^ 10 - 1 := by decide
  have key : (BitVec.ofInt 64 n &&& BitVec.ofInt 64 1023).toNat = (n % ((2 ^ 64 : Nat) : Int)).toNat % 2 ^ 10 := by
    rw [BitVec.toNat_and, BitVec.toNat_ofInt, h255, Nat.and_two_pow_sub_one_eq_mod]
  refine ⟨(n % ((2 ^ 64 : Nat) : Int)).toNat % 2 ^ 10, Nat.mod_lt _ (by decide), ?_⟩
  show IntKind.i64.wrap ((BitVec.ofInt 64 n &&& BitVec.ofInt 64 1023).toNat : Nat) = _
  rw [key, IntKind.wrap_i64]
  omega
theorem blen_small {q : Nat} (h : q < 65536) : blen q ≤ 128 := Nat.le_trans ((blen_le_iff q 2).2 (by omega)) (by omega)
theorem lit_empty_valid : validB ⟨#[]⟩ = true := by decide +kernel
theorem lit0_invalid : validB ⟨#[0]⟩ = false := by decide +kernel
theorem nv_lit_empty : nv ⟨#[]⟩ = 0 := by decide +kernel
theorem teE_empty (bts : Nat) : teE bts ⟨#[]⟩ = 0 := by
  have : bl (nv ⟨#[]⟩) = 0 := by decide +kernel
  unfold teE
  rw [lit_empty_valid, if_pos rfl, if_neg (by omega)]
/-- a bound of the exponents tried -/
structure Cap (X k : Nat) : Prop where
  lt : X < 2 ^ (11 * (k + 1))
theorem Cap.next {X k q : Nat} (h : Cap X k) (hq : q < 1024) (hk : k < 8) : Cap (X * (q + 2)) (k + 1) ∧ Cap (X * (q + 2) + k) (k + 1) := by
  have h0 := h.lt
  have h1 : 2 ^ (11 * (k + 1 + 1)) = 2048 * 2 ^ (11 * (k + 1)) := by rw [show 11 * (k + 1 + 1) = 11 + 11 * (k + 1) by omega, Nat.pow_add]
  have h2 : 8 ≤ 2 ^ (11 * (k + 1)) := Nat.le_trans (show 8 ≤ 2 ^ 11 by decide) (Nat.pow_le_pow_right (by omega) (by omega))
  have h3 : X * (q + 2) ≤ X * 1026 := Nat.mul_le_mul_left _ (by omega)
  exact ⟨⟨by rw [h1]; omega⟩, ⟨by rw [h1]; omega⟩⟩
theorem tab_small {X k : Nat} (h : Cap X k) (hk : k ≤ 8) : blen X ≤ 13 := by
  have h := h.lt
  rw [blen_le_iff]
  have : (2 : Nat) ^ (11 * (k + 1)) ≤ 2 ^ 104 := Nat.pow_le_pow_right (by omega) (by omega)
  have e : (256 : Nat) ^ 13 = 2 ^ 104 := by decide
  omega
/-- the digits -/
def DG (W : World) (b : Nat) (x y : Int) : Prop := W.heap[b]? = some (.cells #[.int .i64 x, .int .i64 y] 43 (0, 0))
section
variable {W W' : World} {b : Nat} {x y : Int}
theorem DG.lt (h : DG W b x y) : b < W.heap.size := (Array.getElem?_eq_some_iff.1 h).1
theorem DG.c0 (h : DG W b x y) : W.cell? ⟨b, 0, none⟩ = some (.int .i64 x) := by rw [Lib.cell_of_heap h]; rfl
theorem DG.c1 (h : DG W b x y) : W.cell? ⟨b, 1, none⟩ = some (.int .i64 y) := by rw [Lib.cell_of_heap h]; rfl
end
theorem box_gd (w : World) (M O : ByteArray) (x y : Int) : ∃ w1, (w.alloc (.cells #[.string M, .string O] 24)).alloc (.cells #[.int .i64 x, .int .i64 y] 43) = w1 ∧
    GB w1 w.heap.size M O ∧ DG w1 (w.heap.size + 1) x y ∧ Below w.heap.size w w1 := by
  refine ⟨_, rfl, (GB.new w M O).alloc _, ?_, ((Below.refl _ w).alloc (Nat.le_refl _) _).alloc (by simp) _⟩
  have : DG ((w.alloc (.cells #[.string M, .string O] 24)).alloc (.cells #[.int .i64 x, .int .i64 y] 43)) _ x y := heap_alloc_new (w.alloc (.cells #[.string M, .string O] 24)) _
  rw [World.size_alloc] at this
  exact this
set_option maxHeartbeats 8000000 in
theorem tables_walk (M O s : ByteArray) (x y : Int) (w : World) (h3 : s.size ≤ maxLen) :
    Calls Tryz.prog 6 #[.agg #[.string M, .string O], .string s, .agg #[.int .i64 x, .int .i64 y]] w fun e w' => e = .returned (.bool true) ∧ Below w.heap.size w w' := by
  have HFA := Lib.hid (fun w ao1 (h : NS w ao1 [s]) => few9_any M O ao1 1 1 [s] w h rfl (by unfold maxLen; omega) (by simpa using h3))
  obtain ⟨w0, hw0, hG0, hD0, hb0⟩ := box_gd w M O x y
  have d0 := hD0.c0
  have d1 := hD0.c1
  go_enter Tryz.func6, Tryz.ntmps6
  go_wp2_with fail
  go_quiet (fail)
  have hG1 : GB (w0.drewN nq) w.heap.size M O := hG0
  have hb1 : Below w.heap.size w (w0.drewN nq) := below_drewN hb0 nq
  have hN1 : NS ((w0.drewN nq).alloc (.cells #[.string s] 22)) (some ⟨w0.heap.size, 0, none⟩) [s] := ns_one (w0.drewN nq) s
  have hG2 := hG1.alloc (.cells #[.string s] 22)
  have hb2 := hb1.alloc hb1.size (.cells #[.string s] 22)
  have c0 := hG1.c0
  have c1 := hG1.c1
  go_wp2_with fail
  generalize World.alloc (w0.drewN nq) _ = w1 at hG2 hb2 hN1 ⊢
  clear c0 c1 d0 d1 hG0 hG1 hb1 hb0 hD0 hw0
  cases hf1 : few9 M O [s]
  · refine (HFA.out _ _ hN1).mono ?_; rw [hf1]; rintro e w2 ⟨rfl, b2⟩
    have hb3 := hb2.trans (b2.mono hb2.size)
    clear hf1
    go_wp2_with fail
    refine (awakeG _).mono ?_; rintro e wa ⟨rfl, ba⟩
    go_wp2_with fail
    go_ret
    exact ⟨rfl, hb3.trans (ba.mono hb3.size)⟩
  have h64 := few9_M hf1
  refine (HFA.out _ _ hN1).mono ?_; rw [hf1]; rintro e w2 ⟨rfl, b2⟩
  have hb3 := hb2.trans (b2.mono hb2.size)
  have hG3 := hG2.below b2 hG2.lt
  clear hf1 b2 hb2 hG2 hN1 HFA
  by_cases hx : 200 < x
  · go_wp2_with fail
    refine (awakeG _).mono ?_; rintro e wa ⟨rfl, ba⟩
    go_wp2_with fail
    go_ret
    exact ⟨rfl, hb3.trans (ba.mono hb3.size)⟩
  have c0 := hG3.c0
  have c1 := hG3.c1
  have HREF := Lib.hid (fun w => r13NewTable_any M O s x w h64)
  by_cases hE : ntE M O s x = 0
  rotate_left
  · obtain ⟨E, hEE⟩ : ∃ E, ntE M O s x = E := ⟨_, rfl⟩
    have HNT := Lib.hid (fun w => newTable_bad M O s x E w hEE (by rw [← hEE]; exact hE))
    rw [hEE] at HREF hE
    have HTZ := Lib.hid (fun w => tabExp_zero ⟨#[]⟩ w)
    rw [if_pos lit_empty_valid] at HTZ
    clear hEE
    go_wp2_with fail
    refine (HNT.out _).mono ?_; rintro e w4 ⟨rfl, b4⟩
    have hb4 := hb3.trans (b4.mono hb3.size)
    have hG4 := hG3.below b4 hG3.lt
    have hX := TX.new w4 ⟨#[]⟩ 0 (.slice none 0 0)
    have hA := (Below.refl w4.heap.size w4).alloc (Nat.le_refl _) (.cells #[.string ⟨#[]⟩, .int .i64 0, .slice none 0 0] 46)
    have hG5 := hG4.below hA hG4.lt
    have hb5 := hb4.trans (hA.mono hb4.size)
    clear c0 c1 hG3 hb3 b4
    have c0 := hG5.c0
    have c1 := hG5.c1
    go_wp2_with fail
    generalize w4.heap.size = p at hX ⊢
    generalize w4.alloc _ = w5 at hX hG5 hb5 c0 c1 ⊢
    clear hA hG4 hb4
    refine (HREF.out _).mono ?_; rintro e w6 ⟨rfl, b6⟩
    have hX6 := hX.below b6 hX.lt
    have hb6 := hb5.trans (b6.mono hb5.size)
    have e0 := hX6.c0
    have e1 := hX6.c1
    have e2 := hX6.c2
    clear c0 c1 hG5 hX hb5 b6
    go_wp2_with fail
    refine (HTZ.out _).mono ?_; rintro e w7 ⟨rfl, b7⟩
    have hb7 := hb6.trans (b7.mono hb6.size)
    clear e0 e1 e2 hX6 hb6 b7
    go_wp2_with fail
    refine (awakeG _).mono ?_; rintro e wa ⟨rfl, ba⟩
    go_wp2_with fail
    go_ret
    exact ⟨rfl, hb7.trans (ba.mono hb7.size)⟩
  have hE' := hE
  unfold ntE at hE'
  have hv : validB s = true := by
    by_cases h : validB s = true
    · exact h
    · rw [if_neg h] at hE'; cases hE'
  have hg : gE M O = 0 := by
    by_cases h : gE M O = 0
    · exact h
    · rw [if_pos hv, if_neg h] at hE'; exact absurd hE' h
  have hrg : ¬ (x < 0 ∨ 1024 < x) := fun h => by rw [if_pos hv, if_pos hg, if_pos h] at hE'; cases hE'
  have hel : elN (nv M) (nv O) (nv s) = true := by
    by_cases h : elN (nv M) (nv O) (nv s) = true
    · exact h
    · rw [if_pos hv, if_pos hg, if_neg hrg, if_neg h] at hE'; cases hE'
  clear hE'
  obtain ⟨bts, rfl⟩ : ∃ n : Nat, x = (n : Int) := ⟨x.toNat, by omega⟩
  obtain ⟨hM, _, hm2, _⟩ := gE_ok hg
  have HNT := Lib.hid (fun w => newTable_ok M O s bts w hE)
  rw [hE] at HREF
  -- a power by the table, and by the reference
  have HPW : Hid (∀ e : ByteArray, pwS s false e M = enc (nv s ^ nv e % nv M) ∨ validB e = false) := fun e => by
    cases he : validB e
    · exact .inr rfl
    · exact .inl (pwS_el hg hv hel (by unfold ivB; rw [he]; rfl)).2
  have HM := Lib.hid (And.intro hM hm2)
  have HB := Lib.hid (show bts ≤ 1024 by omega)
  obtain ⟨q, hq, hqe⟩ := i64_and1023 y
  have HQ := Lib.hid hq
  clear hE hv hg hel hrg hM hm2 hq
  go_wp2_with fail
  refine (HNT.out _).mono ?_
  rintro e w4 ⟨v, rfl, htb, b4⟩
  obtain ⟨ao2, cc, rfl, _⟩ := htb.open'
  have hG4 := hG3.below b4 hG3.lt
  have hb4 := hb3.trans (b4.mono hb3.size)
  obtain ⟨n, hn⟩ : ∃ n, (bts + 3) / 4 = n := ⟨_, rfl⟩
  rw [hn] at htb ⊢
  have HN := Lib.hid hn
  have hX := TX.new w4 M bts (.slice ao2 n cc)
  have hA := (Below.refl w4.heap.size w4).alloc (Nat.le_refl _) (.cells #[.string M, .int .i64 (bts : Int), .slice ao2 n cc] 46)
  have htb5 := Lib.hid (htb.below hA)
  have hG5 := hG4.below hA hG4.lt
  have hb5 := hb4.trans (hA.mono hb4.size)
  clear c0 c1 hG3 hb3 b4 HNT hn
  have c0 := hG5.c0
  have c1 := hG5.c1
  go_wp2_with fail
  generalize w4.heap.size = p at hX ⊢
  generalize w4.alloc _ = w5 at hX htb5 hG5 hb5 c0 c1 ⊢
  clear hA hG4 hb4 htb
  refine (HREF.out _).mono ?_; rintro e w6 ⟨rfl, b6⟩
  have hX6 := hX.below b6 hX.lt
  have hb6 := hb5.trans (b6.mono hb5.size)
  have hG6 := hG5.below b6 hG5.lt
  have htb6 := Lib.hid (htb5.out.below b6)
  clear c0 c1 hG5 hX hb5 b6 htb5 HREF
  obtain ⟨m, hm⟩ : ∃ m, nv M = m := ⟨_, rfl⟩
  obtain ⟨b, hbb⟩ : ∃ b, nv s = b := ⟨_, rfl⟩
  rw [hm] at HPW HM htb6
  rw [hbb] at HPW htb6
  have HTE : Hid (∀ e w, Below w6.heap.size w6 w → Calls Tryz.prog 27 #[.agg #[.string M, .int .i64 (bts : Int), .slice ao2 n cc], .string e] w fun r w' => r = .returned (.tuple #[.string (if teE bts e = 0 then enc (b ^ nv e % m) else ⟨#[]⟩), .int .i64 (teE bts e)]) ∧ Below w.heap.size w w') := fun e w hw => by
    by_cases ht : teE bts e = 0
    · rw [ht, if_pos rfl]
      have hv : validB e = true := by
        by_cases h : validB e = true
        · exact h
        · unfold teE at ht; rw [if_neg h] at ht; cases ht
      have hl : bl (nv e) ≤ bts := by
        unfold teE at ht
        rw [if_pos hv] at ht
        by_cases h : bts < bl (nv e)
        · rw [if_pos h] at ht; cases ht
        · omega
      exact tabExp_ok M e bts m b (nv e) n _ w HM.out.1 HM.out.2 (isN_of_valid hv) hl HB.out HN.out (htb6.out.below hw)
    · rw [if_neg ht]
      exact tabExp_bad M e bts _ w (HM.out.1.pos (by have := HM.out.2; omega)) _ rfl ht
  have HTR : Hid (∀ e w, Calls Tryz.prog 28 #[.agg #[.string M, .string O], .string s, .int .i64 (bts : Int), .string e] w fun r w' => r = .returned (.tuple #[.string (if teE bts e = 0 then enc (b ^ nv e % m) else ⟨#[]⟩), .int .i64 (teE bts e)]) ∧ Below w.heap.size w w') := fun e w => by
    have h := r13Table_any M O s e bts w h64
    rcases HPW.out e with h1 | h1
    · rw [h1] at h; exact h
    · have : teE bts e ≠ 0 := by unfold teE; rw [h1, if_neg (by decide)]; decide
      rw [if_neg this] at h ⊢
      exact h
  clear hm hbb HPW h64
  go_wp2_with fail
  go_loopw [14, 15] (fun vx vi wr => ∃ k X : Nat, k ≤ 8 ∧ vi = .int .i64 (k : Int) ∧ vx = .string (enc X) ∧ Cap X k ∧ Below w6.heap.size w6 wr) (fun _ vi _ => 8 - (intOf vi).toNat)
  case atStart => exact ⟨0, 1, by omega, rfl, by rw [lit1], ⟨by decide⟩, Below.refl _ _⟩
  case round =>
    obtain ⟨k, X, hk, rfl, rfl, hXX, hbr⟩ := hrel
    have hX7 := hX6.below hbr hX6.lt
    have e0 := hX7.c0
    have e1 := hX7.c1
    have e2 := hX7.c2
    by_cases hlt : k < 8
    · have hbl := tab_small hXX (by omega)
      have HXN := Lib.hid (IsN.mk' (show blen X ≤ 128 by omega))
      have HT1 := Lib.hid (HTE.out (enc X))
      have HT2 := Lib.hid (HTR.out (enc X))
      have hX1 := hXX.next HQ.out hlt
      have b1 := tab_small hX1.1 (by omega)
      have b2 := tab_small hX1.2 (by omega)
      have HX1 := Lib.hid hX1.2
      have HM1 := Lib.hid (fun w => Mul_any (enc X) (enc (q + 2)) X (q + 2) w HXN.out (IsN.mk' (blen_small (by have := HQ.out; omega))))
      rw [fitS_ok (by omega), fitE_ok (by omega)] at HM1
      have HA1 := Lib.hid (fun w => Add_any (enc (X * (q + 2))) (enc k) (X * (q + 2)) k w (IsN.mk' (by omega)) (IsN.mk' (blen_small (by omega))))
      rw [fitS_ok (by omega), fitE_ok (by omega)] at HA1
      obtain ⟨T, hT⟩ : ∃ T, teE bts (enc X) = T := ⟨_, rfl⟩
      rw [hT] at HT1 HT2
      obtain ⟨S, hS⟩ : ∃ S, (if T = 0 then enc (b ^ nv (enc X) % m) else ⟨#[]⟩ : ByteArray) = S := ⟨_, rfl⟩
      rw [hS] at HT1 HT2
      have HO1 := Lib.hid (fun w => Of_any (q + 2) w (by have := HQ.out; omega))
      have HO2 := Lib.hid (fun w => Of_any k w (by omega))
      have u1 : IntKind.u64.wrap ((q : Int)) = (q : Int) := by have := HQ.out; rw [IntKind.wrap_u64]; omega
      have u2 : IntKind.u64.wrap ((q : Int) + 2) = ((q + 2 : Nat) : Int) := by have := HQ.out; rw [IntKind.wrap_u64]; omega
      have u3 : IntKind.u64.wrap ((k : Int)) = (k : Int) := by rw [IntKind.wrap_u64]; omega
      clear hT hS hX1 b1 b2 hbl hXX
      go_wp2_with fail
      refine (HT1.out _ hbr).mono ?_; rintro e w7 ⟨rfl, b7⟩
      have hb7 := hbr.trans (b7.mono hbr.size)
      have hG7 := hG6.below hb7 hG6.lt
      have c0 := hG7.c0
      have c1 := hG7.c1
      clear e0 e1 e2 hX7 b7
      go_wp2_with fail
      refine (HT2.out _).mono ?_; rintro e w8 ⟨rfl, b8⟩
      have hb8 := hb7.trans (b8.mono hb7.size)
      clear c0 c1 hG7 b8
      go_wp2_with fail
      refine (HO1.out _).mono ?_; rintro e w9 ⟨rfl, b9⟩
      have hb9 := hb8.trans (b9.mono hb8.size)
      clear b9
      go_wp2_with fail
      refine (HM1.out _).mono ?_; rintro e w10 ⟨rfl, b10⟩
      have hb10 := hb9.trans (b10.mono hb9.size)
      clear b10
      go_wp2_with fail
      refine (HO2.out _).mono ?_; rintro e w11 ⟨rfl, b11⟩
      have hb11 := hb10.trans (b11.mono hb10.size)
      clear b11
      go_wp2_with fail
      refine (HA1.out _).mono ?_; rintro e w12 ⟨rfl, b12⟩
      have hb12 := hb11.trans (b12.mono hb11.size)
      clear b12
      go_wp2_with fail
      exact ⟨⟨k + 1, X * (q + 2) + k, by omega, by go_num, rfl, HX1.out, hb12⟩, by simp [intOf]; omega⟩
    · obtain rfl : k = 8 := by omega
      have HT1 := Lib.hid (HTE.out ⟨#[0]⟩)
      rw [show teE bts ⟨#[0]⟩ = 3 by unfold teE; rw [lit0_invalid]; rfl, if_neg (by decide)] at HT1
      have HT2 := Lib.hid (HTE.out ⟨#[]⟩)
      rw [teE_empty, if_pos rfl, nv_lit_empty, Nat.pow_zero, Nat.mod_eq_of_lt (by have := HM.out.2; omega)] at HT2
      have q1 : ((enc 1).toList == [1]) = true := by decide +kernel
      have q2 := one_list
      clear hXX
      go_wp2_with fail
      refine (HT1.out _ hbr).mono ?_; rintro e w7 ⟨rfl, b7⟩
      have hb7 := hbr.trans (b7.mono hbr.size)
      have hX8 := hX6.below hb7 hX6.lt
      clear e0 e1 e2 hX7 b7
      have e0 := hX8.c0
      have e1 := hX8.c1
      have e2 := hX8.c2
      go_wp2_with fail
      refine (HT2.out _ hb7).mono ?_; rintro e w8 ⟨rfl, b8⟩
      have hb8 := hb7.trans (b8.mono hb7.size)
      clear e0 e1 e2 hX8 b8
      go_wp2_with fail
      refine (awakeG _).mono ?_; rintro e wa ⟨rfl, ba⟩
      have hb9 := hb6.trans (hb8.mono hb6.size)
      go_wp2_with fail
      go_ret
      exact ⟨rfl, hb9.trans (ba.mono hb9.size)⟩
end Go.Proofs.YtcjbbneiobnmkaaGreat
