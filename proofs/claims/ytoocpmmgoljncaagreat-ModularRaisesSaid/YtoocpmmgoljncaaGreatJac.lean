/- modular.Jacobi. -/
import Derived.Test.YtoocpmmgoljncaaGreatInv
import Derived.Test.YtoocpmmgoljncaaGreatRfC
namespace Go.Proofs.YtoocpmmgoljncaaGreat
open Go.RowKit Num
set_option maxRecDepth 20000
set_option linter.unusedVariables false
namespace Num
/-- the Jacobi symbol by reciprocity, times s; f bounds the number of steps -/
def jacF : Nat → Nat → Nat → Int → Int
  | 0, _, _, _ => 0
  | f + 1, a, n, s => if a = 0 then (if n = 1 then s else 0) else if a % 2 = 0 then jacF f (a / 2) n (if n % 8 = 3 ∨ n % 8 = 5 then -s else s) else jacF f (n % a) a (if a % 4 = 3 ∧ n % 4 = 3 then -s else s)
def jac (a n : Nat) (s : Int) : Int := jacF (a + 1) a n s
theorem jacF_fuel : ∀ (f a n : Nat) (s : Int), a < f → jacF f a n s = jac a n s := by
  intro f
  induction f using Nat.strongRecOn with
  | _ f ih =>
    intro a n s h
    cases f with
    | zero => omega
    | succ f =>
      unfold jac
      by_cases h0 : a = 0
      · simp [jacF, h0]
      · by_cases h2 : a % 2 = 0
        · simp only [jacF, h0, h2, if_false, if_true]
          rw [ih f (by omega) _ _ _ (by omega)]
          by_cases hf : a = f
          · subst hf; rw [ih a (by omega) _ _ _ (by omega)]
          · exact (ih a (by omega) _ _ _ (by omega)).symm
        · simp only [jacF, h0, h2, if_false]
          have := Nat.mod_lt n (show 0 < a by omega)
          rw [ih f (by omega) _ _ _ (by omega)]
          by_cases hf : a = f
          · subst hf; rw [ih a (by omega) _ _ _ (by omega)]
          · exact (ih a (by omega) _ _ _ (by omega)).symm
theorem jac_zero (n : Nat) (s : Int) : jac 0 n s = if n = 1 then s else 0 := rfl
theorem jac_even {a : Nat} (n : Nat) (s : Int) (h0 : a ≠ 0) (h : a % 2 = 0) : jac a n s = jac (a / 2) n (if n % 8 = 3 ∨ n % 8 = 5 then -s else s) := by
  rw [← jacF_fuel a (a / 2) n _ (by omega)]
  unfold jac
  simp only [jacF, h0, h, if_false, if_true]
theorem jac_odd {a : Nat} (n : Nat) (s : Int) (h : a % 2 = 1) : jac a n s = jac (n % a) a (if a % 4 = 3 ∧ n % 4 = 3 then -s else s) := by
  rw [← jacF_fuel a (n % a) a _ (Nat.mod_lt _ (by omega))]
  unfold jac
  simp only [jacF, show a ≠ 0 by omega, show ¬ a % 2 = 0 by omega, if_false]
end Num
theorem low_any (s : ByteArray) (l : Nat) (w : World) (hs : s.size ≤ 1000000) (hl : nv s % 8 = l) :
    Calls Tryz.prog 40 #[.string s] w fun e w' => e = .returned (.int .i64 (l : Int)) ∧ w = w' := by
  by_cases h0 : s.size = 0
  · have e1 : s = ⟨#[]⟩ := by cases s with | mk d => simp [ByteArray.size] at h0; simp [h0]
    subst e1
    have : l = 0 := by rw [← hl]; decide
    subst this
    go_enter Tryz.func40, Tryz.ntmps40
    go_wp2_with fail
    go_ret
    exact ⟨rfl, rfl⟩
  · obtain ⟨n1, n2⟩ := toList_ne h0
    have hd := nv_digit s 0 (by omega)
    rw [Nat.pow_zero, Nat.div_one] at hd
    simp only [Nat.sub_zero] at hd
    have hl2 : ((s[s.size - 1]'(by omega)).toNat) % 8 = l := by rw [hd, ← hl]; omega
    have e2 : ((s.size : Int) - 1).toNat = s.size - 1 := by omega
    have HL := Lib.hid hl2
    have E2 := Lib.hid e2
    clear hl hd hl2 e2
    go_enter Tryz.func40, Tryz.ntmps40
    go_wp2_with fail
    go_ret
    refine ⟨ret_int ?_, rfl⟩
    have := HL.out
    omega
/-- what Jacobi answers -/
def jcE (s v : ByteArray) : Int := if chk [s] [v] = 0 then (if nv v % 2 = 0 then 1 else 0) else chk [s] [v]
def jcV (s v : ByteArray) : Int := if jcE s v = 0 then jac (nv s % nv v) (nv v) 1 else 0
theorem isN2 : IsN ⟨#[2]⟩ 2 := ⟨by decide +kernel, by decide +kernel⟩
theorem sign_neg {x : Int} (h : x = 1 ∨ x = -1) : -x = 1 ∨ -x = -1 := by omega
set_option maxHeartbeats 4000000 in
theorem Jacobi_odd (s v : ByteArray) (a m : Nat) (w : World) (hs : IsN s a) (hv : IsN v m) (h2 : m % 2 = 1) :
    Calls Tryz.prog 18 #[.string s, .string v] w fun e w' => e = .returned (.tuple #[.int .i64 (jac (a % m) m 1), .int .i64 0]) ∧ Below w.heap.size w w' := by
  have h0 : 0 < m := by omega
  have hk := chk11 hs hv h0
  obtain ⟨lm, hlm⟩ : ∃ l, m % 8 = l := ⟨_, rfl⟩
  have t1 : ((lm : Int) % 2 == 0) = false := by rw [beq_eq_false_iff_ne]; omega
  have HLM : Hid (nv v % 8 = lm) := by rw [hv.nv]; exact hlm
  have HS := Lib.hid hs; clear hs
  have HV := Lib.hid hv; clear hv
  obtain ⟨T, hT⟩ : ∃ T, jac (a % m) m 1 = T := ⟨_, rfl⟩
  rw [hT]
  have HT := Lib.hid hT
  have HM2 := Lib.hid h2
  have hlm8 : lm < 8 := by omega
  clear hT hlm h2
  go_enter Tryz.func18, Tryz.ntmps18
  go_wp2_with fail
  refine (check11 w s v).mono ?_; rintro e w1 ⟨rfl, hb1⟩
  rw [hk]
  clear hk
  go_wp2_with fail
  refine (low_any v lm _ (by have := HV.out.small; omega) HLM.out).mono ?_; rintro e w2 ⟨rfl, rfl⟩
  go_wp2_with fail
  refine (reduced_any _ _ _ _ _ HS.out HV.out h0).mono ?_; rintro e w3 ⟨rfl, hb3⟩
  replace hb3 := hb1.trans (hb3.mono hb1.size)
  clear t1 hlm8 hb1
  go_wp2_with fail
  go_loopw [0, 1, 7, 8] (fun p q r r8 wr => ∃ (x n : Nat) (z : Int), p = .string (enc x) ∧ q = .string (enc n) ∧ r = .int .i64 z ∧ (z = 1 ∨ z = -1) ∧ n % 2 = 1 ∧ blen x ≤ 128 ∧ blen n ≤ 128 ∧ Hid (jac x n z = T) ∧ Below w.heap.size w wr) (fun p _ _ _ _ => strNum p)
  case atStart => exact ⟨a % m, m, 1, rfl, by rw [HV.out.eq], rfl, .inl rfl, HM2.out, mod_le HV.out h0, HV.out.le, HT, hb3⟩
  case round =>
    clear hb3 HT HLM HM2
    obtain ⟨x, n, z, rfl, rfl, rfl, hz, hn, hx, hnl, hJ, hb⟩ := hrel
    have hz1 : -1 ≤ z := by omega
    have hz2 : z ≤ 1 := by omega
    rcases Nat.eq_zero_or_pos x with hx0 | hx0
    · subst hx0
      have hf := hJ.out
      rw [jac_zero] at hf
      rw [enc_zero]
      by_cases h1 : n = 1
      · subst h1
        rw [if_pos rfl] at hf
        rw [enc_I]
        have HF := Lib.hid hf
        clear hf hJ
        go_wp2_with fail
        go_ret2
        exact ⟨by rw [← HF.out]; rfl, hb⟩
      · rw [if_neg h1] at hf
        obtain ⟨e1, e2⟩ := enc_ne h1
        rw [one_list] at e1 e2
        have HF := Lib.hid hf
        clear hf hJ
        go_wp2_with fail
        go_ret2
        exact ⟨by rw [← HF.out]; rfl, hb⟩
    · have ne := (notEmpty_enc hx0).1
      have ne' := toList_enc_nil hx0
      go_wp2_with fail
      obtain ⟨wo, rfl⟩ : ∃ wo : World, wo = wr := ⟨_, rfl⟩
      go_loopw [0, 7, 8] (fun p r r8 wr => ∃ (y : Nat) (z : Int), p = .string (enc y) ∧ r = .int .i64 z ∧ (z = 1 ∨ z = -1) ∧ 0 < y ∧ y ≤ x ∧ Hid (jac y n z = T) ∧ Below w.heap.size w wr) (fun p _ _ _ => strNum p)
      case atStart => exact ⟨x, z, rfl, rfl, hz, hx0, Nat.le_refl _, hJ, hb⟩
      case round =>
        clear hJ hb hz hz1 hz2 ne ne'
        obtain ⟨y, z, rfl, rfl, hz, hy0, hyx, hJ, hb⟩ := hrel
        have hz1 : -1 ≤ z := by omega
        have hz2 : z ≤ 1 := by omega
        have hyl : blen y ≤ 128 := Nat.le_trans (blen_mono hyx) hx
        obtain ⟨ly, hly⟩ : ∃ l, y % 8 = l := ⟨_, rfl⟩
        have HLY : Hid (nv (enc y) % 8 = ly) := by rw [nv_enc]; exact hly
        obtain ⟨ln, hln⟩ : ∃ l, n % 8 = l := ⟨_, rfl⟩
        have HLN : Hid (nv (enc n) % 8 = ln) := by rw [nv_enc]; exact hln
        have hly8 : ly < 8 := by omega
        have hln8 : ln < 8 := by omega
        have HY := Lib.hid (IsN.mk' hyl)
        have HN := Lib.hid (IsN.mk' hnl)
        by_cases he : y % 2 = 0
        · have t1 : ((ly : Int) % 2 == 0) = true := by rw [beq_iff_eq]; omega
          have hst := jac_even n z (by omega) he
          rw [hJ.out] at hst
          have hh0 : 0 < y / 2 := by omega
          have hhx : y / 2 ≤ x := by omega
          have hhl : y / 2 < y := by omega
          have HH := Lib.hid (And.intro hh0 (And.intro hhx hhl))
          clear hJ hly he hh0 hhx hhl
          by_cases h35 : n % 8 = 3 ∨ n % 8 = 5
          · rw [if_pos h35] at hst
            have HST := Lib.hid hst.symm
            have hzn := sign_neg hz
            have hq : ln = 3 ∨ ln = 5 := by omega
            clear hst h35 hln
            rcases hq with rfl | rfl
            all_goals
              go_wp2_with fail
              refine (low_any (enc y) ly _ (by have := HY.out.small; omega) HLY.out).mono ?_; rintro e w2 ⟨rfl, rfl⟩
              go_wp2_with fail
              refine (DivMod_any _ _ y 2 _ HY.out isN2 (by omega)).mono ?_; rintro e w2 ⟨rfl, hb2⟩
              go_wp2_with fail
              refine (low_any (enc n) _ _ (by have := HN.out.small; omega) HLN.out).mono ?_; rintro e w3 ⟨rfl, rfl⟩
              go_wp2_with fail
              exact ⟨⟨y / 2, -z, rfl, by first | rfl | go_num, hzn, HH.out.1, HH.out.2.1, HST.out, hb.trans (hb2.mono hb.size)⟩, by simp only [strNum, nv_enc]; exact HH.out.2.2⟩
          · rw [if_neg h35] at hst
            have HST := Lib.hid hst.symm
            have q3 : ((ln : Int) == 3) = false := by rw [beq_eq_false_iff_ne]; omega
            have q5 : ((ln : Int) == 5) = false := by rw [beq_eq_false_iff_ne]; omega
            clear hst h35 hln
            go_wp2_with fail
            refine (low_any (enc y) ly _ (by have := HY.out.small; omega) HLY.out).mono ?_; rintro e w2 ⟨rfl, rfl⟩
            go_wp2_with fail
            refine (DivMod_any _ _ y 2 _ HY.out isN2 (by omega)).mono ?_; rintro e w2 ⟨rfl, hb2⟩
            go_wp2_with fail
            refine (low_any (enc n) ln _ (by have := HN.out.small; omega) HLN.out).mono ?_; rintro e w3 ⟨rfl, rfl⟩
            go_wp2_with fail
            exact ⟨⟨y / 2, z, rfl, rfl, hz, HH.out.1, HH.out.2.1, HST.out, hb.trans (hb2.mono hb.size)⟩, by simp only [strNum, nv_enc]; exact HH.out.2.2⟩
        · have t1 : ((ly : Int) % 2 == 0) = false := by rw [beq_eq_false_iff_ne]; omega
          have hst := jac_odd n z (show y % 2 = 1 by omega)
          rw [hJ.out] at hst
          have hm := Nat.mod_lt n hy0
          have hml : blen (n % y) ≤ 128 := Nat.le_trans (blen_mono (Nat.mod_le _ _)) hnl
          have HM := Lib.hid (And.intro (show y % 2 = 1 by omega) (And.intro hml (show n % y < x by omega)))
          clear hJ he hm hml
          by_cases h3 : y % 4 = 3
          · have q1 : ((ly : Int) % 4 == 3) = true := by rw [beq_iff_eq]; omega
            by_cases h4 : n % 4 = 3
            · have q2 : ((ln : Int) % 4 == 3) = true := by rw [beq_iff_eq]; omega
              rw [if_pos ⟨h3, h4⟩] at hst
              have HST := Lib.hid hst.symm
              have hzn := sign_neg hz
              clear hst h3 h4 hln hly
              go_wp2_with fail
              refine (low_any (enc y) ly _ (by have := HY.out.small; omega) HLY.out).mono ?_; rintro e w2 ⟨rfl, rfl⟩
              go_wp2_with fail
              refine (low_any (enc y) ly _ (by have := HY.out.small; omega) HLY.out).mono ?_; rintro e w2 ⟨rfl, rfl⟩
              go_wp2_with fail
              refine (low_any (enc n) ln _ (by have := HN.out.small; omega) HLN.out).mono ?_; rintro e w3 ⟨rfl, rfl⟩
              go_wp2_with fail
              refine (reduced_any _ _ n y _ HN.out HY.out hy0).mono ?_; rintro e w3 ⟨rfl, hb3⟩
              go_wp2_with fail
              exact ⟨⟨n % y, y, -z, rfl, rfl, by first | rfl | go_num, hzn, HM.out.1, HM.out.2.1, hyl, HST.out, hb.trans (hb3.mono hb.size)⟩, by simp only [strNum, nv_enc]; exact HM.out.2.2⟩
            · have q2 : ((ln : Int) % 4 == 3) = false := by rw [beq_eq_false_iff_ne]; omega
              rw [if_neg (fun h => h4 h.2)] at hst
              have HST := Lib.hid hst.symm
              clear hst h3 h4 hln hly
              go_wp2_with fail
              refine (low_any (enc y) ly _ (by have := HY.out.small; omega) HLY.out).mono ?_; rintro e w2 ⟨rfl, rfl⟩
              go_wp2_with fail
              refine (low_any (enc y) ly _ (by have := HY.out.small; omega) HLY.out).mono ?_; rintro e w2 ⟨rfl, rfl⟩
              go_wp2_with fail
              refine (low_any (enc n) ln _ (by have := HN.out.small; omega) HLN.out).mono ?_; rintro e w3 ⟨rfl, rfl⟩
              go_wp2_with fail
              refine (reduced_any _ _ n y _ HN.out HY.out hy0).mono ?_; rintro e w3 ⟨rfl, hb3⟩
              go_wp2_with fail
              exact ⟨⟨n % y, y, z, rfl, rfl, rfl, hz, HM.out.1, HM.out.2.1, hyl, HST.out, hb.trans (hb3.mono hb.size)⟩, by simp only [strNum, nv_enc]; exact HM.out.2.2⟩
          · have q1 : ((ly : Int) % 4 == 3) = false := by rw [beq_eq_false_iff_ne]; omega
            rw [if_neg (fun h => h3 h.1)] at hst
            have HST := Lib.hid hst.symm
            clear hst h3 hln hly
            go_wp2_with fail
            refine (low_any (enc y) ly _ (by have := HY.out.small; omega) HLY.out).mono ?_; rintro e w2 ⟨rfl, rfl⟩
            go_wp2_with fail
            refine (low_any (enc y) ly _ (by have := HY.out.small; omega) HLY.out).mono ?_; rintro e w2 ⟨rfl, rfl⟩
            go_wp2_with fail
            refine (reduced_any _ _ n y _ HN.out HY.out hy0).mono ?_; rintro e w3 ⟨rfl, hb3⟩
            go_wp2_with fail
            exact ⟨⟨n % y, y, z, rfl, rfl, rfl, hz, HM.out.1, HM.out.2.1, hyl, HST.out, hb.trans (hb3.mono hb.size)⟩, by simp only [strNum, nv_enc]; exact HM.out.2.2⟩
theorem Jacobi_even (s v : ByteArray) (a m : Nat) (w : World) (hs : IsN s a) (hv : IsN v m) (h0 : 0 < m) (h2 : m % 2 = 0) :
    Calls Tryz.prog 18 #[.string s, .string v] w fun e w' => e = .returned (.tuple #[.int .i64 0, .int .i64 1]) ∧ Below w.heap.size w w' := by
  have hk := chk11 hs hv h0
  obtain ⟨lm, hlm⟩ : ∃ l, m % 8 = l := ⟨_, rfl⟩
  have t1 : ((lm : Int) % 2 == 0) = true := by rw [beq_iff_eq]; omega
  have HLM : Hid (nv v % 8 = lm) := by rw [hv.nv]; exact hlm
  have hvs := hv.small
  have hlm8 : lm < 8 := by omega
  clear hlm h2 hs hv
  go_enter Tryz.func18, Tryz.ntmps18
  go_wp2_with fail
  refine (check11 w s v).mono ?_; rintro e w1 ⟨rfl, hb1⟩
  rw [hk]
  clear hk
  go_wp2_with fail
  refine (low_any v lm _ (by omega) HLM.out).mono ?_; rintro e w2 ⟨rfl, rfl⟩
  go_wp2_with fail
  go_ret2
  exact ⟨rfl, hb1⟩
theorem Jacobi_any (s v : ByteArray) (w : World) :
    Calls Tryz.prog 18 #[.string s, .string v] w fun e w' => e = .returned (.tuple #[.int .i64 (jcV s v), .int .i64 (jcE s v)]) ∧ Below w.heap.size w w' := by
  have hc := chk_cases [s] [v]
  by_cases h0 : chk [s] [v] = 0
  · obtain ⟨hs, hv, hp⟩ := chk11_inv h0
    by_cases hg : nv v % 2 = 0
    · have e1 : jcE s v = 1 := by unfold jcE; rw [if_pos h0, if_pos hg]
      rw [jcV, e1, if_neg (by decide)]
      exact Jacobi_even s v _ _ w hs hv hp hg
    · have e1 : jcE s v = 0 := by unfold jcE; rw [if_pos h0, if_neg hg]
      rw [jcV, e1, if_pos rfl]
      exact Jacobi_odd s v _ _ w hs hv (by omega)
  · have e1 : jcE s v = chk [s] [v] := by unfold jcE; rw [if_neg h0]
    rw [jcV, e1, if_neg h0]
    have hk : chk [s] [v] = 3 ∨ chk [s] [v] = 11 := hc.resolve_left h0
    clear hc h0 e1
    rcases hk with hk | hk
    all_goals
      rw [hk]
      have HK := Lib.hid hk
      clear hk
      go_enter Tryz.func18, Tryz.ntmps18
      go_wp2_with fail
      refine (check11 w s v).mono ?_; rintro e w1 ⟨rfl, hb1⟩
      rw [HK.out]
      go_wp2_with fail
      go_ret2
      exact ⟨rfl, hb1⟩
end Go.Proofs.YtoocpmmgoljncaaGreat
