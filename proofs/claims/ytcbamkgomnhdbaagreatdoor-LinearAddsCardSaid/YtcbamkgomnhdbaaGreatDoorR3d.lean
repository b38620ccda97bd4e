/- The reference of layer 3: Inverse, raise, Exp, Power. -/
import Derived.Test.YtcbamkgomnhdbaaGreatDoorR2e
import Derived.Test.YtcbamkgomnhdbaaGreatDoorJac
import Derived.Test.YtcbamkgomnhdbaaGreatDoorPow
namespace Go.Proofs.YtcbamkgomnhdbaaGreatDoor
open Go.RowKit Num
set_option maxRecDepth 20000
set_option linter.unusedVariables false
set_option maxHeartbeats 4000000 in
theorem refInverse_yes (a m : Nat) (w : World) (hs : blen a ≤ 128) (hv : blen m ≤ 128) (h0 : 0 < m) (hg : Nat.gcd a m = 1) :
    Calls Tryz.prog 180 #[.string (enc a), .string (enc m)] w fun e w' => e = .returned (.tuple #[.string (enc (invm a m)), .int .i64 0]) ∧ Below w.heap.size w w' := by
  have hk := chk11 (IsN.mk' hs) (IsN.mk' hv) h0
  have HS := Lib.hid (IsN.mk' hs)
  have HV := Lib.hid (IsN.mk' hv)
  have HVL := Lib.hid hv
  have HG := Lib.hid hg
  have H0 := Lib.hid h0
  have HR := Lib.hid (Nat.le_trans (blen_mono (Nat.le_of_lt (Nat.mod_lt a h0))) hv)
  clear hs hv hg h0
  go_enter Tryz.func180, Tryz.ntmps180
  go_wp2_with fail
  refine (refCheck2 w (enc a) (enc m)).mono ?_; rintro e w1 ⟨rfl, hb1⟩
  rw [hk]
  clear hk
  go_wp2_with fail
  refine (refMod_any _ _ _ _ _ HS.out HV.out H0.out).mono ?_; rintro e w2 ⟨rfl, hb2⟩
  go_wp2_with fail
  refine (ref2Ext_z _ _ _ HR.out HVL.out H0.out).mono ?_
  rintro e w3 ⟨x, y, rfl, hxy, hx0, hx1, hyy, hb3⟩
  rw [gcd_mod_left, HG.out, Nat.div_one] at hx1
  rw [gcd_mod_left, HG.out] at hxy ⊢
  obtain ⟨hxa, hxm⟩ := inv_of_bez H0.out hxy hx0 hx1
  have hz3 := (ZBox.new w3 x).alloc (.cells #[.bool (zb y), .string (zs y)] 54)
  have hzy := ZBox.new (w3.alloc (.cells #[.bool (zb x), .string (zs x)] 54)) y
  have q2 := bbl (bbl hb1 hb2) hb3
  have q3 := (q2.alloc q2.size (.cells #[.bool (zb x), .string (zs x)] 54)).alloc (by have := q2.size; simp; omega) (.cells #[.bool (zb y), .string (zs y)] 54)
  have zx : ZOk x := Nat.le_trans (blen_mono (Nat.le_of_lt hxm)) HVL.out
  have hfin : (x % (m : Int)).toNat = invm a m := by rw [Int.emod_eq_of_lt hx0 hx1, ← hxa]; omega
  have HF := Lib.hid (And.intro zx hfin)
  clear hxy hx0 hx1 hyy hxa hxm zx hfin q2 hb1 hb2 hb3 hzy
  go_wp2_with fail
  generalize w3.heap.size = p at hz3 ⊢
  generalize World.alloc _ _ = w4 at hz3 q3 ⊢
  refine (refOf_any 1 _ (by omega)).mono ?_; rintro e w5 ⟨rfl, b5⟩
  have hz5 := hz3.below b5 hz3.lt
  replace q3 := bbl q3 b5
  clear hz3 b5
  have c0 := hz5.c0
  have c1 := hz5.c1
  have e1 := enc_same' 1
  go_wp2_with fail
  refine (ref2Mod_z x m _ HF.out.1 HVL.out H0.out).mono ?_; rw [HF.out.2]; rintro e w6 ⟨rfl, b6⟩
  go_wp2_with fail
  go_ret2
  exact ⟨rfl, bbl q3 b6⟩
set_option maxHeartbeats 4000000 in
theorem refInverse_no (a m : Nat) (w : World) (hs : blen a ≤ 128) (hv : blen m ≤ 128) (h0 : 0 < m) (hg : Nat.gcd a m ≠ 1) :
    Calls Tryz.prog 180 #[.string (enc a), .string (enc m)] w fun e w' => e = .returned (.tuple #[.string ⟨#[]⟩, .int .i64 9]) ∧ Below w.heap.size w w' := by
  have hk := chk11 (IsN.mk' hs) (IsN.mk' hv) h0
  have HS := Lib.hid (IsN.mk' hs)
  have HV := Lib.hid (IsN.mk' hv)
  have HVL := Lib.hid hv
  have H0 := Lib.hid h0
  have HR := Lib.hid (Nat.le_trans (blen_mono (Nat.le_of_lt (Nat.mod_lt a h0))) hv)
  obtain ⟨e1, e2⟩ := enc_ne hg
  clear hs hv hg h0
  go_enter Tryz.func180, Tryz.ntmps180
  go_wp2_with fail
  refine (refCheck2 w (enc a) (enc m)).mono ?_; rintro e w1 ⟨rfl, hb1⟩
  rw [hk]
  clear hk
  go_wp2_with fail
  refine (refMod_any _ _ _ _ _ HS.out HV.out H0.out).mono ?_; rintro e w2 ⟨rfl, hb2⟩
  go_wp2_with fail
  refine (ref2Ext_z _ _ _ HR.out HVL.out H0.out).mono ?_
  rintro e w3 ⟨x, y, rfl, hxy, hx0, hx1, hyy, hb3⟩
  rw [gcd_mod_left]
  have q2 := bbl (bbl hb1 hb2) hb3
  have q3 := (q2.alloc q2.size (.cells #[.bool (zb x), .string (zs x)] 54)).alloc (by have := q2.size; simp; omega) (.cells #[.bool (zb y), .string (zs y)] 54)
  clear hxy hx0 hx1 hyy q2 hb1 hb2 hb3
  go_wp2_with fail
  generalize World.alloc _ _ = w4 at q3 ⊢
  refine (refOf_any 1 _ (by omega)).mono ?_; rintro e w5 ⟨rfl, b5⟩
  replace q3 := bbl q3 b5
  clear b5
  go_wp2_with fail
  go_ret2
  exact ⟨rfl, q3⟩
theorem refInverse_any (s v : ByteArray) (w : World) :
    Calls Tryz.prog 180 #[.string s, .string v] w fun e w' => e = .returned (.tuple #[.string (ivS s v), .int .i64 (ivE s v)]) ∧ Below w.heap.size w w' := by
  have hc := chk_cases [s] [v]
  by_cases h0 : chk [s] [v] = 0
  · obtain ⟨hs, hv, hp⟩ := chk11_inv h0
    have es := hs.eq
    have ev := hv.eq
    by_cases hg : Nat.gcd (nv s) (nv v) = 1
    · have e1 : ivE s v = 0 := by unfold ivE; rw [if_pos h0, if_pos hg]
      rw [ivS, e1, mo_zero]
      have := refInverse_yes (nv s) (nv v) w hs.le hv.le hp hg
      rw [← es, ← ev] at this
      exact this
    · have e1 : ivE s v = 9 := by unfold ivE; rw [if_pos h0, if_neg hg]
      rw [ivS, e1, mo_bad (by decide)]
      have := refInverse_no (nv s) (nv v) w hs.le hv.le hp hg
      rw [← es, ← ev] at this
      exact this
  · have e1 : ivE s v = chk [s] [v] := by unfold ivE; rw [if_neg h0]
    rw [ivS, e1, mo_bad h0]
    have hk : chk [s] [v] = 3 ∨ chk [s] [v] = 11 := hc.resolve_left h0
    clear hc h0 e1
    rcases hk with hk | hk
    all_goals
      rw [hk]
      have HK := Lib.hid hk
      clear hk
      go_enter Tryz.func180, Tryz.ntmps180
      go_wp2_with fail
      refine (refCheck2 w s v).mono ?_; rintro e w1 ⟨rfl, hb1⟩
      rw [HK.out]
      go_wp2_with fail
      go_ret2
      exact ⟨rfl, hb1⟩
end Go.Proofs.YtcbamkgomnhdbaaGreatDoor
namespace Go.Proofs.YtcbamkgomnhdbaaGreatDoor
open Go.RowKit Num
set_option maxRecDepth 20000
set_option linter.unusedVariables false
namespace Num
theorem raise_sq (a q m : Nat) : (a ^ q % m) * (a ^ q % m) % m = a ^ (2 * q) % m := by
  rw [← Nat.mul_mod, ← Nat.pow_add, Nat.two_mul]
theorem raise_one (a q m : Nat) : (a ^ (2 * q) % m) * a % m = a ^ (2 * q + 1) % m := by
  rw [Nat.pow_succ, Nat.mul_mod (a ^ (2 * q)) a m, Nat.mul_mod (a ^ (2 * q) % m) a m, Nat.mod_mod]
theorem raise_start (a e m : Nat) : 1 % m = a ^ (e / 2 ^ bl e) % m := by
  rw [Nat.div_eq_of_lt (lt_bl e), Nat.pow_zero]
theorem raise_bit0 {e j : Nat} (h : tb e j = false) : e / 2 ^ j = 2 * (e / 2 ^ (j + 1)) := by
  have h1 := half_bit e j
  rw [tb_val, h] at h1
  simpa using h1
theorem raise_bit1 {e j : Nat} (h : tb e j = true) : e / 2 ^ j = 2 * (e / 2 ^ (j + 1)) + 1 := by
  have h1 := half_bit e j
  rw [tb_val, h] at h1
  simpa using h1
theorem bl_1024 {e : Nat} (h : blen e ≤ 128) : bl e ≤ 1024 := by
  have h1 : bl e ≤ 8 * blen e := by rw [bl_le_iff, Nat.pow_mul]; exact lt_blen e
  omega
theorem wrap_down {k : Nat} (h : k ≤ 1024) : IntKind.i64.wrap ((k : Int) - 1) = (k : Int) - 1 := by rw [IntKind.wrap_i64]; omega
end Num
set_option maxHeartbeats 4000000 in
theorem refRaise_any (s t v : ByteArray) (a e m : Nat) (w : World) (hs : IsN s a) (ht : IsN t e) (hv : IsN v m) (h0 : 0 < m) (h64 : v.size ≤ 64) :
    Calls Tryz.prog 181 #[.string s, .string t, .string v] w fun r w' => r = .returned (.string (enc (a ^ e % m))) ∧ Below w.heap.size w w' := by
  have HS := Lib.hid hs
  have HT := Lib.hid ht
  have HV := Lib.hid hv
  have H0 := Lib.hid h0
  have H64 := Lib.hid h64
  have HI := Lib.hid (IsN.mk' (show blen 1 ≤ 128 by decide))
  have hbl := bl_1024 ht.le
  have HN : Hid (∀ x, IsN (enc (x % m)) (x % m)) := fun x => IsN.mk' (mod_le hv h0)
  have hst := raise_start a e m
  have HST := Lib.hid hst
  have wr1 := wrap_down hbl
  clear hs ht hv h0 h64 hst
  go_enter Tryz.func181, Tryz.ntmps181
  go_wp2_with fail
  refine (refOf_any 1 _ (by omega)).mono ?_; rintro r w1 ⟨rfl, b1⟩
  go_wp2_with fail
  refine (refMod_any _ _ _ _ _ HI.out HV.out H0.out).mono ?_; rw [HST.out]; rintro r w2 ⟨rfl, b2⟩
  replace b1 := bbl b1 b2
  clear b2
  go_wp2_with fail
  refine (refBits_any _ _ _ HT.out).mono ?_; rintro r w3 ⟨rfl, rfl⟩
  go_wp2_with fail
  go_loopw [7, 8] (fun vo vi wr => ∃ k : Nat, k ≤ bl e ∧ vo = .string (enc (a ^ (e / 2 ^ k) % m)) ∧ vi = .int .i64 ((k : Int) - 1) ∧ Below w.heap.size w wr) (fun _ vi _ => (intOf vi + 1).toNat)
  case atStart => exact ⟨bl e, Nat.le_refl _, rfl, rfl, b1⟩
  case round =>
    clear b1 HST wr1
    obtain ⟨k, hk, rfl, rfl, hb⟩ := hrel
    cases k with
    | zero =>
      go_wp2_with fail
      go_ret
      exact ⟨by simp, hb⟩
    | succ j =>
      have hj : ((j + 1 : Nat) : Int) - 1 = (j : Int) := by omega
      rw [hj]
      have wr2 := wrap_down (k := j) (by omega)
      have hj2 : j ≤ 1000000 := by omega
      have hj3 : (0 : Int) ≤ (j : Int) := by omega
      have HB := Lib.hid hb
      clear hb hj
      go_wp2_with fail
      refine (refTimesM_any _ _ _ _ _ _ _ (HN.out _) (HN.out _) HV.out H0.out H64.out).mono ?_; rw [raise_sq]; rintro r w4 ⟨rfl, b4⟩
      replace HB := Lib.hid (bbl HB.out b4)
      clear b4
      go_wp2_with fail
      refine (refBit_any _ _ _ _ HT.out hj2).mono ?_
      cases hbit : tb e j
      · rintro r w5 ⟨rfl, rfl⟩
        have hq := raise_bit0 hbit
        rw [← hq]
        clear hq
        go_wp2_with fail
        exact ⟨⟨j, by omega, rfl, rfl, HB.out⟩, by simp [intOf]⟩
      · rintro r w5 ⟨rfl, rfl⟩
        have hq := Lib.hid (raise_bit1 hbit)
        go_wp2_with fail
        refine (refTimesM_any _ _ _ _ _ _ _ (HN.out _) HS.out HV.out H0.out H64.out).mono ?_; rw [raise_one, ← hq.out]; rintro r w6 ⟨rfl, b6⟩
        replace HB := Lib.hid (bbl HB.out b6)
        clear b6 hq
        go_wp2_with fail
        exact ⟨⟨j, by omega, rfl, rfl, HB.out⟩, by simp [intOf]⟩
theorem refMExp_any (s t v : ByteArray) (w : World) (h64 : v.size ≤ 64) :
    Calls Tryz.prog 177 #[.string s, .string t, .string v] w fun e w' => e = .returned (.tuple #[.string (mo (chk [s, t] [v]) (nv s ^ nv t % nv v)), .int .i64 (chk [s, t] [v])]) ∧ Below w.heap.size w w' := by
  have hc := chk_cases [s, t] [v]
  by_cases h0 : chk [s, t] [v] = 0
  · obtain ⟨hs, ht, hv, hp⟩ := chk21_inv h0
    rw [h0, mo_zero]
    have HS := Lib.hid hs
    have HT := Lib.hid ht
    have HV := Lib.hid hv
    have HK := Lib.hid h0
    clear hc h0 hs ht hv
    go_enter Tryz.func177, Tryz.ntmps177
    go_wp2_with fail
    refine (refCheck3 w s t v).mono ?_; rintro e w1 ⟨rfl, hb1⟩
    rw [HK.out]
    go_wp2_with fail
    refine (refRaise_any _ _ _ _ _ _ _ HS.out HT.out HV.out hp h64).mono ?_; rintro e w2 ⟨rfl, hb2⟩
    replace hb1 := bbl hb1 hb2
    clear hb2
    go_wp2_with fail
    go_ret2
    exact ⟨rfl, hb1⟩
  · rw [mo_bad h0]
    have hk : chk [s, t] [v] = 3 ∨ chk [s, t] [v] = 11 := hc.resolve_left h0
    clear hc h0
    rcases hk with hk | hk
    all_goals
      rw [hk]
      have HK := Lib.hid hk
      clear hk
      go_enter Tryz.func177, Tryz.ntmps177
      go_wp2_with fail
      refine (refCheck3 w s t v).mono ?_; rintro e w1 ⟨rfl, hb1⟩
      rw [HK.out]
      go_wp2_with fail
      go_ret2
      exact ⟨rfl, hb1⟩
end Go.Proofs.YtcbamkgomnhdbaaGreatDoor
namespace Go.Proofs.YtcbamkgomnhdbaaGreatDoor
open Go.RowKit Num
set_option maxRecDepth 20000
set_option linter.unusedVariables false
theorem chk_inv1 {s v : ByteArray} (h : validB s = false) : chk [s] [v] = 3 := by unfold chk; simp [h]
theorem chk_inv2 {s v : ByteArray} (h : validB v = false) : chk [s] [v] = 3 := by unfold chk; simp [h]
theorem pwE_bad {s t v : ByteArray} {ng : Bool} (h : chk [s] [v] ≠ 0) (h2 : (validB t && !(ng && t.toList.isEmpty)) = true) : pwE s ng t v = chk [s] [v] := by
  have h3 : validB t = true ∧ (ng && t.toList.isEmpty) = false := by rw [Bool.and_eq_true, Bool.not_eq_true'] at h2; exact h2
  unfold pwE
  rw [if_pos h3, ivE_bad h]
  simp
theorem pwE_three {s t v : ByteArray} {ng : Bool} (h2 : (validB t && !(ng && t.toList.isEmpty)) = false) : pwE s ng t v = 3 := by
  unfold pwE
  rw [if_neg]
  rintro ⟨a, b⟩
  rw [a, b] at h2
  cases h2
set_option maxHeartbeats 4000000 in
theorem refPower_three (s : ByteArray) (ng : Bool) (t v : ByteArray) (w : World) (h : (validB s && (validB t && !(ng && t.toList.isEmpty)) && validB v) = false) :
    Calls Tryz.prog 151 #[.string s, .agg #[.bool ng, .string t], .string v] w fun e w' => e = .returned (.tuple #[.string ⟨#[]⟩, .int .i64 3]) ∧ Below w.heap.size w w' := by
  have hb := (Below.refl _ w).alloc (Nat.le_refl _) (.cells #[.bool ng, .string t] 54)
  have hI := IB.new w ng t
  cases hs : validB s
  · have HS := Lib.hid hs
    clear hs h
    go_enter Tryz.func151, Tryz.ntmps151
    go_wp2_with fail
    refine (refValid_any s _).mono ?_; rw [HS.out]; rintro e w1 ⟨rfl, rfl⟩
    go_wp2_with fail
    go_ret2
    exact ⟨rfl, hb⟩
  · have HS := Lib.hid hs
    rw [hs] at h
    clear hs
    cases ht : (validB t && !(ng && t.toList.isEmpty))
    · have HT := Lib.hid ht
      clear ht h
      go_enter Tryz.func151, Tryz.ntmps151
      go_wp2_with fail
      refine (refValid_any s _).mono ?_; rw [HS.out]; rintro e w1 ⟨rfl, rfl⟩
      have c0 := hI.c0
      have c1 := hI.c1
      go_wp2_with fail
      clear c0 c1
      refine (ref2Valid_any ng t _).mono ?_; rw [HT.out]; rintro e w1 ⟨rfl, b1⟩
      go_wp2_with fail
      go_ret2
      exact ⟨rfl, hb.trans (b1.mono (by simp))⟩
    · have HT := Lib.hid ht
      rw [ht] at h
      have HV := Lib.hid (show validB v = false by simpa using h)
      clear ht h
      go_enter Tryz.func151, Tryz.ntmps151
      go_wp2_with fail
      refine (refValid_any s _).mono ?_; rw [HS.out]; rintro e w1 ⟨rfl, rfl⟩
      have c0 := hI.c0
      have c1 := hI.c1
      go_wp2_with fail
      clear c0 c1
      refine (ref2Valid_any ng t _).mono ?_; rw [HT.out]; rintro e w1 ⟨rfl, b1⟩
      go_wp2_with fail
      refine (refValid_any v _).mono ?_; rw [HV.out]; rintro e w2 ⟨rfl, rfl⟩
      go_wp2_with fail
      go_ret2
      exact ⟨rfl, hb.trans (b1.mono (by simp))⟩
set_option maxHeartbeats 4000000 in
theorem refPower_zero (s : ByteArray) (ng : Bool) (t : ByteArray) (w : World) (hs : validB s = true) (ht : (validB t && !(ng && t.toList.isEmpty)) = true) :
    Calls Tryz.prog 151 #[.string s, .agg #[.bool ng, .string t], .string ⟨#[]⟩] w fun e w' => e = .returned (.tuple #[.string ⟨#[]⟩, .int .i64 11]) ∧ Below w.heap.size w w' := by
  have hb := (Below.refl _ w).alloc (Nat.le_refl _) (.cells #[.bool ng, .string t] 54)
  have hI := IB.new w ng t
  have HS := Lib.hid hs
  have HT := Lib.hid ht
  have HV := Lib.hid (show validB ⟨#[]⟩ = true by decide +kernel)
  clear hs ht
  go_enter Tryz.func151, Tryz.ntmps151
  go_wp2_with fail
  refine (refValid_any s _).mono ?_; rw [HS.out]; rintro e w1 ⟨rfl, rfl⟩
  have c0 := hI.c0
  have c1 := hI.c1
  go_wp2_with fail
  clear c0 c1
  refine (ref2Valid_any ng t _).mono ?_; rw [HT.out]; rintro e w1 ⟨rfl, b1⟩
  go_wp2_with fail
  refine (refValid_any _ _).mono ?_; rw [HV.out]; rintro e w2 ⟨rfl, rfl⟩
  go_wp2_with fail
  go_ret2
  exact ⟨rfl, hb.trans (b1.mono (by simp))⟩
set_option maxHeartbeats 4000000 in
theorem refPower_plus (s t : ByteArray) (a e m : Nat) (w : World) (hs : IsN s a) (ht : IsN t e) (hm : blen m ≤ 64) (h0 : 0 < m) :
    Calls Tryz.prog 151 #[.string s, .agg #[.bool false, .string t], .string (enc m)] w fun e' w' => e' = .returned (.tuple #[.string (enc (a ^ e % m)), .int .i64 0]) ∧ Below w.heap.size w w' := by
  have hb := (Below.refl _ w).alloc (Nat.le_refl _) (.cells #[.bool false, .string t] 54)
  have hI := IB.new w false t
  have HS := Lib.hid hs
  have HT := Lib.hid ht
  have HV := Lib.hid (IsN.mk' (show blen m ≤ 128 by omega))
  have H64 := Lib.hid (show (enc m).size ≤ 64 by rw [size_enc]; exact hm)
  have H0 := Lib.hid h0
  have HVT := Lib.hid (show (validB t && !(false && t.toList.isEmpty)) = true by rw [ht.valid]; rfl)
  have ne := (notEmpty_enc h0).1
  have ne' := toList_enc_nil h0
  clear hs ht hm h0
  go_enter Tryz.func151, Tryz.ntmps151
  go_wp2_with fail
  refine (refValid_any s _).mono ?_; rw [HS.out.valid]; rintro e w1 ⟨rfl, rfl⟩
  have c0 := hI.c0
  have c1 := hI.c1
  go_wp2_with fail
  clear c0 c1
  refine (ref2Valid_any false t _).mono ?_; rw [HVT.out]; rintro e w1 ⟨rfl, b1⟩
  have hI1 := hI.below b1 (by simp)
  replace hb := hb.trans (b1.mono (by simp))
  clear b1 hI
  go_wp2_with fail
  refine (refValid_any _ _).mono ?_; rw [HV.out.valid]; rintro e w2 ⟨rfl, rfl⟩
  have c0 := hI1.c0
  have c1 := hI1.c1
  go_wp2_with fail
  refine (refRaise_any _ _ _ _ _ _ _ HS.out HT.out HV.out H0.out H64.out).mono ?_; rintro e w3 ⟨rfl, b3⟩
  go_wp2_with fail
  go_ret2
  exact ⟨rfl, bbl hb b3⟩
set_option maxHeartbeats 4000000 in
theorem refPower_minus (s t : ByteArray) (a e m : Nat) (w : World) (hs : IsN s a) (ht : IsN t e) (hm : blen m ≤ 64) (h0 : 0 < m) (hte : t.toList.isEmpty = false) (E : Int) (R : Nat) (hR : R < m)
    (hE : E = 0 ∨ E = 9) (hInv : ∀ w, Calls Tryz.prog 180 #[.string s, .string (enc m)] w fun e w' => e = .returned (.tuple #[.string (mo E R), .int .i64 E]) ∧ Below w.heap.size w w') :
    Calls Tryz.prog 151 #[.string s, .agg #[.bool true, .string t], .string (enc m)] w fun e' w' => e' = .returned (.tuple #[.string (mo E (R ^ e % m)), .int .i64 E]) ∧ Below w.heap.size w w' := by
  have hb := (Below.refl _ w).alloc (Nat.le_refl _) (.cells #[.bool true, .string t] 54)
  have hI := IB.new w true t
  have HS := Lib.hid hs
  have HT := Lib.hid ht
  have HV := Lib.hid (IsN.mk' (show blen m ≤ 128 by omega))
  have H64 := Lib.hid (show (enc m).size ≤ 64 by rw [size_enc]; exact hm)
  have H0 := Lib.hid h0
  have HVT := Lib.hid (show (validB t && !(true && t.toList.isEmpty)) = true by rw [ht.valid, hte]; rfl)
  have ne := (notEmpty_enc h0).1
  have ne' := toList_enc_nil h0
  have HRN := Lib.hid (IsN.mk' (Nat.le_trans (blen_mono (Nat.le_of_lt hR)) (show blen m ≤ 128 by omega)))
  have HINV := Lib.hid hInv
  clear hs ht hm h0 hte hR hInv
  rcases hE with rfl | rfl
  · rw [mo_zero]
    simp only [mo_zero] at HINV
    go_enter Tryz.func151, Tryz.ntmps151
    go_wp2_with fail
    refine (refValid_any s _).mono ?_; rw [HS.out.valid]; rintro e w1 ⟨rfl, rfl⟩
    have c0 := hI.c0
    have c1 := hI.c1
    go_wp2_with fail
    clear c0 c1
    refine (ref2Valid_any true t _).mono ?_; rw [HVT.out]; rintro e w1 ⟨rfl, b1⟩
    have hI1 := hI.below b1 (by simp)
    replace hb := hb.trans (b1.mono (by simp))
    clear b1 hI
    go_wp2_with fail
    refine (refValid_any _ _).mono ?_; rw [HV.out.valid]; rintro e w2 ⟨rfl, rfl⟩
    have c0 := hI1.c0
    have c1 := hI1.c1
    go_wp2_with fail
    refine (HINV.out _).mono ?_; rintro e w3 ⟨rfl, b3⟩
    have hI2 := hI1.below b3 hI1.lt
    replace hb := bbl hb b3
    clear b3 hI1 c0 c1
    have c0 := hI2.c0
    have c1 := hI2.c1
    go_wp2_with fail
    refine (refRaise_any _ _ _ _ _ _ _ HRN.out HT.out HV.out H0.out H64.out).mono ?_; rintro e w4 ⟨rfl, b4⟩
    go_wp2_with fail
    go_ret2
    exact ⟨rfl, bbl hb b4⟩
  · rw [mo_bad (by decide)]
    simp only [mo_bad (show (9 : Int) ≠ 0 by decide)] at HINV
    go_enter Tryz.func151, Tryz.ntmps151
    go_wp2_with fail
    refine (refValid_any s _).mono ?_; rw [HS.out.valid]; rintro e w1 ⟨rfl, rfl⟩
    have c0 := hI.c0
    have c1 := hI.c1
    go_wp2_with fail
    clear c0 c1
    refine (ref2Valid_any true t _).mono ?_; rw [HVT.out]; rintro e w1 ⟨rfl, b1⟩
    have hI1 := hI.below b1 (by simp)
    replace hb := hb.trans (b1.mono (by simp))
    clear b1 hI
    go_wp2_with fail
    refine (refValid_any _ _).mono ?_; rw [HV.out.valid]; rintro e w2 ⟨rfl, rfl⟩
    have c0 := hI1.c0
    have c1 := hI1.c1
    go_wp2_with fail
    refine (HINV.out _).mono ?_; rintro e w3 ⟨rfl, b3⟩
    go_wp2_with fail
    go_ret2
    exact ⟨rfl, bbl hb b3⟩
theorem refPower_any (s : ByteArray) (ng : Bool) (t v : ByteArray) (w : World) (h64 : v.size ≤ 64) :
    Calls Tryz.prog 151 #[.string s, .agg #[.bool ng, .string t], .string v] w fun e w' => e = .returned (.tuple #[.string (pwS s ng t v), .int .i64 (pwE s ng t v)]) ∧ Below w.heap.size w w' := by
  cases h : (validB s && (validB t && !(ng && t.toList.isEmpty)) && validB v)
  · have e1 : pwE s ng t v = 3 := by
      cases ht : (validB t && !(ng && t.toList.isEmpty))
      · exact pwE_three ht
      · have hk : chk [s] [v] = 3 := by
          cases hs : validB s
          · exact chk_inv1 hs
          · rw [hs, ht] at h
            exact chk_inv2 (by simpa using h)
        rw [pwE_bad (by rw [hk]; decide) ht, hk]
    rw [pwS, e1, mo_bad (by decide)]
    exact refPower_three s ng t v w h
  · rw [Bool.and_eq_true, Bool.and_eq_true] at h
    obtain ⟨⟨hs, ht⟩, hv⟩ := h
    have ht2 : validB t = true ∧ (ng && t.toList.isEmpty) = false := by rw [Bool.and_eq_true, Bool.not_eq_true'] at ht; exact ht
    have hS := isN_of_valid hs
    have hT := isN_of_valid ht2.1
    have hV := isN_of_valid hv
    rcases Nat.eq_zero_or_pos (nv v) with h0 | h0
    · have ev : v = ⟨#[]⟩ := by rw [hV.eq, h0, enc_zero]
      subst ev
      have hk : chk [s] [⟨#[]⟩] = 11 := by
        unfold chk
        simp [hs, hv]
        rfl
      have e1 : pwE s ng t ⟨#[]⟩ = 11 := by rw [pwE_bad (by rw [hk]; decide) ht, hk]
      rw [pwS, e1, mo_bad (by decide)]
      exact refPower_zero s ng t w hs ht
    · have hk : chk [s] [v] = 0 := chk11 hS hV h0
      have hm : blen (nv v) ≤ 64 := by rw [← hV.size]; exact h64
      have ev := hV.eq
      cases ng
      · have e1 : pwE s false t v = 0 := by unfold pwE; rw [if_pos ht2]; simpa using hk
        have hr : pwS s false t v = enc (nv s ^ nv t % nv v) := by rw [pwS, e1, mo_zero]; simp
        rw [hr, e1]
        have := refPower_plus s t (nv s) (nv t) (nv v) w hS hT hm h0
        rw [← ev] at this
        exact this
      · have he2 : t.toList.isEmpty = false := by simpa using ht2.2
        have e1 : pwE s true t v = ivE s v := by unfold pwE; rw [if_pos ht2]; simp
        by_cases hg : Nat.gcd (nv s) (nv v) = 1
        · have e2 : ivE s v = 0 := by unfold ivE; rw [if_pos hk, if_pos hg]
          have hr : pwS s true t v = mo 0 (invm (nv s) (nv v) ^ nv t % nv v) := by rw [pwS, e1, e2]; simp
          rw [hr, e1, e2]
          have := refPower_minus s t (nv s) (nv t) (nv v) w hS hT hm h0 he2 0 (invm (nv s) (nv v)) (invm_ok h0 hg).1 (.inl rfl) (fun w => by
            have h := refInverse_any s v w
            rw [ivS, e2] at h
            rw [← ev]
            exact h)
          rw [← ev] at this
          exact this
        · have e2 : ivE s v = 9 := by unfold ivE; rw [if_pos hk, if_neg hg]
          have hr : pwS s true t v = mo 9 (0 ^ nv t % nv v) := by rw [pwS, e1, e2, mo_bad (by decide), mo_bad (by decide)]
          rw [hr, e1, e2]
          have := refPower_minus s t (nv s) (nv t) (nv v) w hS hT hm h0 he2 9 0 h0 (.inr rfl) (fun w => by
            have h := refInverse_any s v w
            rw [ivS, e2] at h
            rw [← ev, mo_bad (by decide)]
            rw [mo_bad (by decide)] at h
            exact h)
          rw [← ev] at this
          exact this
end Go.Proofs.YtcbamkgomnhdbaaGreatDoor
