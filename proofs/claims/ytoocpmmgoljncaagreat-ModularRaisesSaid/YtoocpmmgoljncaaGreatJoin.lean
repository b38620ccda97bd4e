/- modular.Join. -/
import Derived.Test.YtoocpmmgoljncaaGreatInv
import Derived.Test.YtoocpmmgoljncaaGreatNatD
namespace Go.Proofs.YtoocpmmgoljncaaGreat
open Go.RowKit Num
set_option maxRecDepth 20000
set_option linter.unusedVariables false
namespace Num
theorem bezout (a b : Nat) : ∃ x y : Int, (a : Int) * x + b * y = (Nat.gcd a b : Nat) := by
  induction a, b using Nat.gcd.induction with
  | H0 n => exact ⟨0, 1, by simp⟩
  | H1 m n hm ih =>
    obtain ⟨x, y, h⟩ := ih
    refine ⟨y - ((n / m : Nat) : Int) * x, x, ?_⟩
    rw [Nat.gcd_rec, ← h]
    have e : ((n % m : Nat) : Int) = n - m * ((n / m : Nat) : Int) := by
      have h1 := Nat.div_add_mod n m
      have h2 : ((m * (n / m) + n % m : Nat) : Int) = n := by rw [h1]
      rw [Int.natCast_add, Int.natCast_mul] at h2
      omega
    rw [e, Int.mul_sub, Int.sub_mul, Int.mul_assoc]
    omega
theorem invm_ok {a m : Nat} (hm : 0 < m) (h : Nat.gcd a m = 1) : invm a m < m ∧ a * invm a m % m = 1 % m := by
  obtain ⟨x, y, hxy⟩ := bezout (a % m) m
  rw [gcd_mod_left, h] at hxy
  exact invm_spec hm hxy
/-- the difference of the remainders, over the common divisor -/
def joinD (a m b n : Nat) : Nat := (b + (n - a % m % n)) % n / Nat.gcd m n
def joinT (a m b n : Nat) : Nat := joinD a m b n * invm (m / Nat.gcd m n) (n / Nat.gcd m n) % (n / Nat.gcd m n)
def joinX (a m b n : Nat) : Nat := a % m + m * joinT a m b n
theorem gcd_quot {m n : Nat} (hm : 0 < m) : Nat.gcd (m / Nat.gcd m n) (n / Nat.gcd m n) = 1 := by
  have hg : 0 < Nat.gcd m n := Nat.gcd_pos_of_pos_left n hm
  rw [Nat.gcd_div (Nat.gcd_dvd_left m n) (Nat.gcd_dvd_right m n), Nat.div_self hg]
theorem joinX_lt {a m b n : Nat} (hm : 0 < m) (hn : 0 < n) : joinT a m b n < n / Nat.gcd m n ∧ joinX a m b n < m * (n / Nat.gcd m n) := by
  have hg : 0 < Nat.gcd m n := Nat.gcd_pos_of_pos_left n hm
  have hk : 0 < n / Nat.gcd m n := Nat.div_pos (Nat.le_of_dvd hn (Nat.gcd_dvd_right m n)) hg
  have ht : joinT a m b n < n / Nat.gcd m n := Nat.mod_lt _ hk
  refine ⟨ht, ?_⟩
  unfold joinX
  have h1 := Nat.mod_lt a hm
  have h2 : m * (joinT a m b n + 1) ≤ m * (n / Nat.gcd m n) := Nat.mul_le_mul_left m ht
  rw [Nat.mul_add] at h2
  omega
end Num
theorem chk22_inv {s t u v : ByteArray} (h : chk [s, t] [u, v] = 0) : (IsN s (nv s) ∧ IsN t (nv t)) ∧ (IsN u (nv u) ∧ 0 < nv u) ∧ IsN v (nv v) ∧ 0 < nv v := by
  obtain ⟨h1, h2⟩ := chk_inv h
  exact ⟨⟨h1 s (by simp), h1 t (by simp)⟩, ⟨h1 u (by simp), h2 u (by simp)⟩, h1 v (by simp), h2 v (by simp)⟩
theorem chk22 {x y m n : ByteArray} {a b p q : Nat} (hx : IsN x a) (hy : IsN y b) (hm : IsN m p) (hn : IsN n q) (h0 : 0 < p) (h1 : 0 < q) : chk [x, y] [m, n] = 0 :=
  chk_ok (by simp [hx.valid, hy.valid, hm.valid, hn.valid]) (by intro x hx; simp at hx; rcases hx with rfl | rfl; exact hm.pos h0; exact hn.pos h1)
theorem check22 (w : World) (x y m n : ByteArray) :
    Calls Tryz.prog 19 #[.slice (some ⟨w.heap.size, 0, none⟩) 2 2, .slice (some ⟨w.heap.size + 1, 0, none⟩) 2 2] ((w.alloc (.cells #[.string x, .string y] 22)).alloc (.cells #[.string m, .string n] 22))
      fun e w' => e = .returned (.int .i64 (chk [x, y] [m, n])) ∧ Below w.heap.size w w' :=
  (check_any ((w.alloc (.cells #[.string x, .string y] 22)).alloc (.cells #[.string m, .string n] 22)) w.heap.size (w.heap.size + 1) [x, y] [m, n] (StrAt.lit1 w _ [x, y] _) (StrAt.lit2 w _ [m, n] _) (by simp) (by simp) (by simp) (by simp)).mono
    fun _ _ h => ⟨h.1, (below_two w _ _).trans (h.2.mono (by simp; omega))⟩
theorem bbelow {B : Nat} {w w1 w2 : World} (h : Below B w w1) (h2 : Below w1.heap.size w1 w2) (hB : B ≤ w.heap.size) : Below B w w2 := h.trans (h2.mono (by have := h.size; omega))
set_option maxHeartbeats 4000000 in
theorem Join_no (s u t v : ByteArray) (a m b n : Nat) (w : World) (hs : IsN s a) (hu : IsN u m) (ht : IsN t b) (hv : IsN v n) (hm : 0 < m) (hn : 0 < n) (hg : a % Nat.gcd m n ≠ b % Nat.gcd m n) :
    Calls Tryz.prog 17 #[.string s, .string u, .string t, .string v] w fun e w' => e = .returned (.tuple #[.string ⟨#[]⟩, .string ⟨#[]⟩, .int .i64 9]) ∧ Below w.heap.size w w' := by
  have hk := chk22 hs ht hu hv hm hn
  have hgp : 0 < Nat.gcd m n := Nat.gcd_pos_of_pos_left n hm
  have hgl : blen (Nat.gcd m n) ≤ 128 := Nat.le_trans (blen_mono (Nat.le_of_dvd hm (Nat.gcd_dvd_left m n))) hu.le
  have HGL := Lib.hid (IsN.mk' hgl)
  obtain ⟨e1, e2⟩ := enc_ne hg
  have HS := Lib.hid hs
  have HU := Lib.hid hu
  have HT := Lib.hid ht
  have HV := Lib.hid hv
  clear hs hu ht hv hgl hg
  go_enter Tryz.func17, Tryz.ntmps17
  go_wp2_with fail
  refine (check22 w s t u v).mono ?_; rintro e w1 ⟨rfl, hb1⟩
  rw [hk]
  clear hk
  go_wp2_with fail
  refine (Gcd_any _ _ _ _ _ HU.out HV.out).mono ?_; rintro e w2 ⟨rfl, hb2⟩
  replace hb1 := bbelow hb1 hb2 (Nat.le_refl _)
  clear hb2
  go_wp2_with fail
  refine (reduced_any _ _ _ _ _ HS.out HGL.out hgp).mono ?_; rintro e w3 ⟨rfl, hb3⟩
  replace hb1 := bbelow hb1 hb3 (Nat.le_refl _)
  clear hb3
  go_wp2_with fail
  refine (reduced_any _ _ _ _ _ HT.out HGL.out hgp).mono ?_; rintro e w4 ⟨rfl, hb4⟩
  replace hb1 := bbelow hb1 hb4 (Nat.le_refl _)
  clear hb4
  go_wp2_with fail
  go_ret3
  exact ⟨rfl, hb1⟩
set_option maxHeartbeats 4000000 in
theorem Join_yes (s u t v : ByteArray) (a m b n : Nat) (w : World) (hs : IsN s a) (hu : IsN u m) (ht : IsN t b) (hv : IsN v n) (hm : 0 < m) (hn : 0 < n) (hg : a % Nat.gcd m n = b % Nat.gcd m n) (hl : blen (m * (n / Nat.gcd m n)) ≤ 128) :
    Calls Tryz.prog 17 #[.string s, .string u, .string t, .string v] w fun e w' => e = .returned (.tuple #[.string (enc (joinX a m b n)), .string (enc (m * (n / Nat.gcd m n))), .int .i64 0]) ∧ Below w.heap.size w w' := by
  have hk := chk22 hs ht hu hv hm hn
  have hgp : 0 < Nat.gcd m n := Nat.gcd_pos_of_pos_left n hm
  have hgl : blen (Nat.gcd m n) ≤ 128 := Nat.le_trans (blen_mono (Nat.le_of_dvd hm (Nat.gcd_dvd_left m n))) hu.le
  have HGL := Lib.hid (IsN.mk' hgl)
  have hkp : 0 < n / Nat.gcd m n := Nat.div_pos (Nat.le_of_dvd hn (Nat.gcd_dvd_right m n)) hgp
  have hq := gcd_quot (n := n) hm
  obtain ⟨hlt1, hlt2⟩ := joinX_lt (a := a) (b := b) hm hn
  have n1 : blen (n / Nat.gcd m n) ≤ 128 := Nat.le_trans (blen_mono (Nat.div_le_self _ _)) hv.le
  have n2 : blen (m / Nat.gcd m n) ≤ 128 := Nat.le_trans (blen_mono (Nat.div_le_self _ _)) hu.le
  have n3 : blen (a % m) ≤ 128 := mod_le hu hm
  have n4 : blen ((b + (n - a % m % n)) % n) ≤ 128 := mod_le hv hn
  have n5 : blen ((b + (n - a % m % n)) % n / Nat.gcd m n) ≤ 128 := Nat.le_trans (blen_mono (Nat.div_le_self _ _)) n4
  have n6 : blen (joinX a m b n) ≤ 128 := Nat.le_trans (blen_mono (Nat.le_of_lt hlt2)) hl
  have n7 : blen (joinT a m b n) ≤ 128 := Nat.le_trans (blen_mono (Nat.le_of_lt hlt1)) n1
  have n8 : blen (m * joinT a m b n) ≤ 128 := Nat.le_trans (blen_mono (show m * joinT a m b n ≤ joinX a m b n by unfold joinX; omega)) n6
  have HN1 := Lib.hid (IsN.mk' n1)
  have HN2 := Lib.hid (IsN.mk' n2)
  have HN3 := Lib.hid (IsN.mk' n3)
  have HN4 := Lib.hid (IsN.mk' n4)
  have HN5 := Lib.hid (IsN.mk' n5)
  have HN7 := Lib.hid (IsN.mk' n7)
  have HN8 := Lib.hid (IsN.mk' n8)
  have HF := Lib.hid (And.intro (And.intro (fitS_ok hl) (fitE_ok hl)) (And.intro (And.intro (fitS_ok n8) (fitE_ok n8)) (And.intro (fitS_ok n6) (fitE_ok n6))))
  have e0 := enc_same' (b % Nat.gcd m n)
  have HG := Lib.hid hg
  have HS := Lib.hid hs
  have HU := Lib.hid hu
  have HT := Lib.hid ht
  have HV := Lib.hid hv
  have HQ := Lib.hid hq
  have HKP := Lib.hid hkp
  have HIN := Lib.hid (IsN.mk' (Nat.le_trans (blen_mono (Nat.le_of_lt (invm_ok hkp hq).1)) n1))
  clear hs hu ht hv hgl hg hl hlt1 hlt2 n1 n2 n3 n4 n5 n6 n7 n8 hq hkp
  go_enter Tryz.func17, Tryz.ntmps17
  go_wp2_with fail
  refine (check22 w s t u v).mono ?_; rintro e w1 ⟨rfl, hb1⟩
  rw [hk]
  clear hk
  go_wp2_with fail
  refine (Gcd_any _ _ _ _ _ HU.out HV.out).mono ?_; rintro e w2 ⟨rfl, hb2⟩
  replace hb1 := bbelow hb1 hb2 (Nat.le_refl _)
  clear hb2
  go_wp2_with fail
  refine (reduced_any _ _ _ _ _ HS.out HGL.out hgp).mono ?_; rintro e w3 ⟨rfl, hb3⟩
  replace hb1 := bbelow hb1 hb3 (Nat.le_refl _)
  clear hb3
  rw [HG.out]
  go_wp2_with fail
  refine (reduced_any _ _ _ _ _ HT.out HGL.out hgp).mono ?_; rintro e w4 ⟨rfl, hb4⟩
  replace hb1 := bbelow hb1 hb4 (Nat.le_refl _)
  clear hb4
  go_wp2_with fail
  refine (DivMod_any _ _ m (Nat.gcd m n) _ HU.out HGL.out hgp).mono ?_; rintro e w5 ⟨rfl, hb5⟩
  replace hb1 := bbelow hb1 hb5 (Nat.le_refl _)
  clear hb5
  go_wp2_with fail
  refine (DivMod_any _ _ n (Nat.gcd m n) _ HV.out HGL.out hgp).mono ?_; rintro e w6 ⟨rfl, hb6⟩
  replace hb1 := bbelow hb1 hb6 (Nat.le_refl _)
  clear hb6
  go_wp2_with fail
  refine (Mul_any _ _ m (n / Nat.gcd m n) _ HU.out HN1.out).mono ?_; rw [HF.out.1.1, HF.out.1.2]; rintro e w7 ⟨rfl, hb7⟩
  replace hb1 := bbelow hb1 hb7 (Nat.le_refl _)
  clear hb7
  go_wp2_with fail
  refine (reduced_any _ _ _ _ _ HS.out HU.out hm).mono ?_; rintro e w8 ⟨rfl, hb8⟩
  replace hb1 := bbelow hb1 hb8 (Nat.le_refl _)
  clear hb8
  go_wp2_with fail
  refine (ModSub_ok _ _ _ b (a % m) n _ HT.out HN3.out HV.out hn).mono ?_; rintro e w9 ⟨rfl, hb9⟩
  replace hb1 := bbelow hb1 hb9 (Nat.le_refl _)
  clear hb9
  go_wp2_with fail
  refine (DivMod_any _ _ ((b + (n - a % m % n)) % n) (Nat.gcd m n) _ HN4.out HGL.out hgp).mono ?_; rintro e w10 ⟨rfl, hb10⟩
  replace hb1 := bbelow hb1 hb10 (Nat.le_refl _)
  clear hb10
  go_wp2_with fail
  refine (Inverse_yes _ _ (m / Nat.gcd m n) (n / Nat.gcd m n) _ HN2.out HN1.out HKP.out HQ.out).mono ?_; rintro e w11 ⟨rfl, hb11⟩
  replace hb1 := bbelow hb1 hb11 (Nat.le_refl _)
  clear hb11
  go_wp2_with fail
  refine (times_any _ _ _ ((b + (n - a % m % n)) % n / Nat.gcd m n) (invm (m / Nat.gcd m n) (n / Nat.gcd m n)) (n / Nat.gcd m n) _ HN5.out HIN.out HN1.out HKP.out).mono ?_; rintro e w12 ⟨rfl, hb12⟩
  replace hb1 := bbelow hb1 hb12 (Nat.le_refl _)
  clear hb12
  go_wp2_with fail
  refine (Mul_any _ _ m (joinT a m b n) _ HU.out HN7.out).mono ?_; rw [HF.out.2.1.1, HF.out.2.1.2]; rintro e w13 ⟨rfl, hb13⟩
  replace hb1 := bbelow hb1 hb13 (Nat.le_refl _)
  clear hb13
  go_wp2_with fail
  refine (Add_any _ _ (a % m) (m * joinT a m b n) _ HN3.out HN8.out).mono ?_
  rw [show a % m + m * joinT a m b n = joinX a m b n from rfl, HF.out.2.2.1, HF.out.2.2.2]
  rintro e w14 ⟨rfl, hb14⟩
  replace hb1 := bbelow hb1 hb14 (Nat.le_refl _)
  clear hb14
  go_wp2_with fail
  go_ret3
  exact ⟨rfl, hb1⟩
end Go.Proofs.YtoocpmmgoljncaaGreat
