import Derived.Test.YtdhhbjmkdmbffaaGreatDoorR3d
import Derived.Test.YtdhhbjmkdmbffaaGreatDoorPwC
import Derived.Test.YtdhhbjmkdmbffaaGreatDoorPwF
import Derived.Test.YtdhhbjmkdmbffaaGreatDoorPwI
import Derived.Test.YtdhhbjmkdmbffaaGreatDoorLnT
import Derived.Test.YtdhhbjmkdmbffaaGreatDoorRows
import Derived.Test.YtdhhbjmkdmbffaaGreatDoorPost
import Derived.ProofKit
import Derived.LaidMore
import Derived.OpenShut
import Derived.Stop.Joined
/- The reference of layer 13: Check, has, Has, Mul, Exp. -/
namespace Go.Proofs.YtdhhbjmkdmbffaaGreatDoor
open Go.RowKit Num
set_option maxRecDepth 20000
set_option linter.unusedVariables false
theorem lit8 : (⟨#[8]⟩ : ByteArray) = enc 8 := by decide +kernel
theorem lit1 : (⟨#[1]⟩ : ByteArray) = enc 1 := by decide +kernel
theorem r13Check_three (M O : ByteArray) (w : World) (h : ¬ (validB M = true ∧ validB O = true)) :
  Calls Tryz.prog 138 #[.agg #[.string M, .string O]] w fun e w' => e = .returned (.int .i64 3) ∧ Below w.heap.size w w' := by
 have hb := (Below.refl _ w).alloc (Nat.le_refl _) (.cells #[.string M, .string O] 27)
 cases hM : validB M
 ·
  have HM := Lib.hid hM
  clear hM h
  go_enter Tryz.func138, Tryz.ntmps138
  go_wp2_with fail
  refine (refValid_any M _).mono ?_; rw [HM.out]; rintro e w1 ⟨rfl, rfl⟩
  go_wp2_with fail
  go_ret
  exact ⟨rfl, hb⟩
 ·
  have hO : validB O = false := by simpa [hM] using h
  have HM := Lib.hid hM
  have HO := Lib.hid hO
  clear hM h hO
  go_enter Tryz.func138, Tryz.ntmps138
  go_wp2_with fail
  refine (refValid_any M _).mono ?_; rw [HM.out]; rintro e w1 ⟨rfl, rfl⟩
  go_wp2_with fail
  refine (refValid_any O _).mono ?_; rw [HO.out]; rintro e w1 ⟨rfl, rfl⟩
  go_wp2_with fail
  go_ret
  exact ⟨rfl, hb⟩
theorem r13Check_zero (w : World) :
  Calls Tryz.prog 138 #[.agg #[.string ⟨#[]⟩, .string ⟨#[]⟩]] w fun e w' => e = .returned (.int .i64 13) ∧ Below w.heap.size w w' := by
 have hb := (Below.refl _ w).alloc (Nat.le_refl _) (.cells #[.string ⟨#[]⟩, .string ⟨#[]⟩] 27)
 have hG := GB.new w ⟨#[]⟩ ⟨#[]⟩
 have HV := Lib.hid (show validB ⟨#[]⟩ = true by decide +kernel)
 go_enter Tryz.func138, Tryz.ntmps138
 go_wp2_with fail
 generalize w.alloc _ = w0 at hb hG ⊢
 have c0 := hG.c0
 have c1 := hG.c1
 refine (refValid_any _ _).mono ?_; rw [HV.out]; rintro e w1 ⟨rfl, rfl⟩
 go_wp2_with fail
 refine (refValid_any _ _).mono ?_; rw [HV.out]; rintro e w1 ⟨rfl, rfl⟩
 go_wp2_with fail
 go_ret
 exact ⟨rfl, hb⟩
set_option maxHeartbeats 4000000 in
theorem r13Check_unit (M : ByteArray) (m : Nat) (w : World) (hM : IsN M m) (h0 : 0 < m) (E : Int) (hE : E = if m % 2 = 1 ∧ 8 < m then 0 else 13) :
  Calls Tryz.prog 138 #[.agg #[.string M, .string ⟨#[]⟩]] w fun e w' => e = .returned (.int .i64 E) ∧ Below w.heap.size w w' := by
 have hb := (Below.refl _ w).alloc (Nat.le_refl _) (.cells #[.string M, .string ⟨#[]⟩] 27)
 have hG := GB.new w M ⟨#[]⟩
 have HM := Lib.hid hM
 have HV := Lib.hid (show validB ⟨#[]⟩ = true by decide +kernel)
 obtain ⟨n1, n2⟩ := tl_ne (hM.pos h0)
 have hp := hM.pos h0
 have hsm := hM.small
 obtain ⟨p, hpp⟩ : ∃ p, M.size = p + 1 := ⟨M.size - 1, by omega⟩
 have x1 : wrap64 ((M.size : Int) - 1) = (p : Int) := by rw [hpp]; unfold wrap64; omega
 have x2 : (p : Int) < (M.size : Int) := by omega
 have x3 : p < M.size := by omega
 have x4 : (0 : Int) ≤ (p : Int) := by omega
 have hd : M[p].toNat = m % 256 := by
  have := nv_digit M 0 (by omega)
  rw [hM.nv] at this
  have e : M.size - 1 - 0 = p := by omega
  simp only [e] at this
  rw [this]; simp
 by_cases ho : m % 2 = 1
 rotate_left
 ·
  have y1 : ((M[p].toNat : Int) % 2 == 0) = true := by rw [hd]; simp; omega
  have y2 : (M[p].toNat : Int) % 2 = 0 := by rw [hd]; omega
  have HE := Lib.hid (hE.trans (if_neg fun h => ho h.1))
  clear hM h0 hE hp hsm hpp hd ho
  go_enter Tryz.func138, Tryz.ntmps138
  go_wp2_with fail
  generalize w.alloc _ = w0 at hb hG ⊢
  have c0 := hG.c0
  have c1 := hG.c1
  refine (refValid_any _ _).mono ?_; rw [HM.out.valid]; rintro e w1 ⟨rfl, rfl⟩
  go_wp2_with fail
  refine (refValid_any _ _).mono ?_; rw [HV.out]; rintro e w1 ⟨rfl, rfl⟩
  go_wp2_with fail
  go_ret
  exact ⟨ret_int HE.out.symm, hb⟩
 have y1 : ((M[p].toNat : Int) % 2 == 0) = false := by rw [hd]; simp; omega
 have y2 : ¬ ((M[p].toNat : Int) % 2 = 0) := by rw [hd]; omega
 have HORD := Lib.hid (fun w => refOrder_any M ⟨#[8]⟩ m 8 w hM.eq lit8 (by omega) (by decide))
 have hE8 : E = if 8 < m then 0 else 13 := by rw [hE]; simp [ho]
 clear hE h0 hp hsm hpp hd ho
 rcases ncmp3 m 8 with ⟨h8, u2⟩ | ⟨h8, u2⟩ | ⟨h8, u2⟩
 all_goals
  have HE := Lib.hid (hE8.trans (by first | exact if_pos h8 | exact if_neg (by omega)))
  rw [u2] at HORD
  clear hE8 h8 u2 hM
  go_enter Tryz.func138, Tryz.ntmps138
  go_wp2_with fail
  generalize w.alloc _ = w0 at hb hG ⊢
  have c0 := hG.c0
  have c1 := hG.c1
  refine (refValid_any _ _).mono ?_; rw [HM.out.valid]; rintro e w1 ⟨rfl, rfl⟩
  go_wp2_with fail
  refine (refValid_any _ _).mono ?_; rw [HV.out]; rintro e w1 ⟨rfl, rfl⟩
  go_wp2_with fail
  refine (HORD.out _).mono ?_; rintro e w2 ⟨rfl, b2⟩
  go_wp2_with fail
  go_ret
  exact ⟨ret_int HE.out.symm, hb.trans (b2.mono hb.size)⟩
theorem one_of {s : ByteArray} (h : IsN s 1) : s = ⟨#[1]⟩ := by rw [h.eq]; decide +kernel
theorem not_one {s : ByteArray} {a : Nat} (h : IsN s a) (h1 : a ≠ 1) : (s.toList == [1]) = false ∧ (s.toList = [1] → False) := by
 rw [h.eq, ← one_list]; exact enc_ne h1
set_option maxHeartbeats 4000000 in
theorem r13Check_low (M O : ByteArray) (m o : Nat) (w : World) (hM : IsN M m) (hO : IsN O o) (h0 : 0 < o) (h : m < 2 ∨ o = 1) :
  Calls Tryz.prog 138 #[.agg #[.string M, .string O]] w fun e w' => e = .returned (.int .i64 13) ∧ Below w.heap.size w w' := by
 have hb := (Below.refl _ w).alloc (Nat.le_refl _) (.cells #[.string M, .string O] 27)
 have hG := GB.new w M O
 have HM := Lib.hid hM.valid
 have HO := Lib.hid hO.valid
 obtain ⟨n1, n2⟩ := tl_ne (hO.pos h0)
 by_cases m0 : m = 0
 ·
  have es : M = ⟨#[]⟩ := by rw [m0] at hM; exact empty_of hM
  subst es
  clear h m0 hM hO
  go_enter Tryz.func138, Tryz.ntmps138
  go_wp2_with fail
  generalize w.alloc _ = w0 at hb hG ⊢
  have c0 := hG.c0
  have c1 := hG.c1
  refine (refValid_any _ _).mono ?_; rw [HM.out]; rintro e w1 ⟨rfl, rfl⟩
  go_wp2_with fail
  refine (refValid_any _ _).mono ?_; rw [HO.out]; rintro e w1 ⟨rfl, rfl⟩
  go_wp2_with fail
  go_ret
  exact ⟨rfl, hb⟩
 obtain ⟨n3, n4⟩ := tl_ne (hM.pos (by omega))
 by_cases m1 : m = 1
 ·
  have es : M = ⟨#[1]⟩ := by rw [m1] at hM; exact one_of hM
  subst es
  have q1 : ((⟨#[1]⟩ : ByteArray).toList == [1]) = true := by decide +kernel
  have q2 : (⟨#[1]⟩ : ByteArray).toList = [1] := by decide +kernel
  clear h m0 m1 hM hO
  go_enter Tryz.func138, Tryz.ntmps138
  go_wp2_with fail
  generalize w.alloc _ = w0 at hb hG ⊢
  have c0 := hG.c0
  have c1 := hG.c1
  refine (refValid_any _ _).mono ?_; rw [HM.out]; rintro e w1 ⟨rfl, rfl⟩
  go_wp2_with fail
  refine (refValid_any _ _).mono ?_; rw [HO.out]; rintro e w1 ⟨rfl, rfl⟩
  go_wp2_with fail
  go_ret
  exact ⟨rfl, hb⟩
 obtain ⟨n5, n6⟩ := not_one hM m1
 have es : O = ⟨#[1]⟩ := by rw [show o = 1 by omega] at hO; exact one_of hO
 subst es
 have q1 : ((⟨#[1]⟩ : ByteArray).toList == [1]) = true := by decide +kernel
 have q2 : (⟨#[1]⟩ : ByteArray).toList = [1] := by decide +kernel
 clear h m0 m1 hM hO
 go_enter Tryz.func138, Tryz.ntmps138
 go_wp2_with fail
 generalize w.alloc _ = w0 at hb hG ⊢
 have c0 := hG.c0
 have c1 := hG.c1
 refine (refValid_any _ _).mono ?_; rw [HM.out]; rintro e w1 ⟨rfl, rfl⟩
 go_wp2_with fail
 refine (refValid_any _ _).mono ?_; rw [HO.out]; rintro e w1 ⟨rfl, rfl⟩
 go_wp2_with fail
 go_ret
 exact ⟨rfl, hb⟩
set_option maxHeartbeats 4000000 in
theorem r13Check_div (M O : ByteArray) (m o : Nat) (w : World) (hM : IsN M m) (hO : IsN O o) (h2 : 2 ≤ m) (h3 : 2 ≤ o) (E : Int) (hE : E = if (m - 1) % o = 0 then 0 else 13) :
  Calls Tryz.prog 138 #[.agg #[.string M, .string O]] w fun e w' => e = .returned (.int .i64 E) ∧ Below w.heap.size w w' := by
 have hb := (Below.refl _ w).alloc (Nat.le_refl _) (.cells #[.string M, .string O] 27)
 have hG := GB.new w M O
 have HM := Lib.hid hM.valid
 have HO := Lib.hid hO.valid
 obtain ⟨n1, n2⟩ := tl_ne (hO.pos (by omega))
 obtain ⟨n3, n4⟩ := tl_ne (hM.pos (by omega))
 obtain ⟨n5, n6⟩ := not_one hM (by omega)
 obtain ⟨n7, n8⟩ := not_one hO (by omega)
 have l1 := hM.small
 have l2 := hO.small
 have HMI := Lib.hid (fun w => refMinus_any M ⟨#[1]⟩ m 1 w hM.eq lit1 (by omega) (by omega))
 have hml : blen (m - 1) ≤ 128 := Nat.le_trans (blen_mono (by omega)) hM.le
 have HOV := Lib.hid (fun w => refOver_any (enc (m - 1)) O (m - 1) o w rfl hO.eq (by omega) (by rw [size_enc]; omega) (by omega))
 obtain ⟨q, hq⟩ : ∃ q, (m - 1) / o = q := ⟨_, rfl⟩
 obtain ⟨r, hr⟩ : ∃ r, (m - 1) % o = r := ⟨_, rfl⟩
 obtain ⟨m1, hm1⟩ : ∃ r, m - 1 = r := ⟨_, rfl⟩
 rw [hq, hr, hm1] at HOV
 rw [hr] at hE
 rw [hm1] at HMI
 clear hM hO h2 h3 hml hq hr hm1 l1 l2
 go_enter Tryz.func138, Tryz.ntmps138
 go_wp2_with fail
 generalize w.alloc _ = w0 at hb hG ⊢
 have c0 := hG.c0
 have c1 := hG.c1
 refine (refValid_any _ _).mono ?_; rw [HM.out]; rintro e w1 ⟨rfl, rfl⟩
 go_wp2_with fail
 refine (refValid_any _ _).mono ?_; rw [HO.out]; rintro e w1 ⟨rfl, rfl⟩
 go_wp2_with fail
 go_cut [3, 4] from 51 (fun v3 v4 wc => v3 = .string (enc q) ∧ v4 = .string (enc r) ∧ Below w.heap.size w wc)
 case first =>
  go_region_held3 (fun w' => w'.cell? ⟨w.heap.size, 0, none⟩ = some (.string M) ∧ w'.cell? ⟨w.heap.size, 1, none⟩ = some (.string O) ∧ GB w' w.heap.size M O ∧ Below w.heap.size w w')
   (first | exact ⟨c0, c1, hG, hb.drew⟩ | assumption | (refine keepG ?_ bn; assumption))
   (first
    | (go_at_call 167; (with_reducible refine (HMI.out _).mono ?_); rintro e wn ⟨rfl, bn⟩)
    | (go_at_call 166; (with_reducible refine (HOV.out _).mono ?_); rintro e wn ⟨rfl, bn⟩))
  all_goals (go_split_ands; go_wp2_with fail; go_meet; exact ⟨rfl, rfl, by assumption⟩)
 case rest =>
  clear hb hG c0 c1
  obtain ⟨rfl, rfl, hb⟩ := hcut
  by_cases h0 : r = 0
  ·
   have HE := Lib.hid (hE.trans (if_pos h0))
   subst h0
   clear hE
   rw [enc_zero]
   go_wp2_with fail
   go_ret
   exact ⟨ret_int HE.out.symm, hb⟩
  ·
   obtain ⟨k1, k2⟩ := And.intro (notEmpty_enc (b := r) (by omega)) (toList_enc_nil (b := r) (by omega))
   have HE := Lib.hid (hE.trans (if_neg h0))
   clear h0 hE
   go_wp2_with fail
   go_ret
   exact ⟨ret_int HE.out.symm, hb⟩
theorem r13Check_any (M O : ByteArray) (w : World) :
  Calls Tryz.prog 138 #[.agg #[.string M, .string O]] w fun e w' => e = .returned (.int .i64 (gE M O)) ∧ Below w.heap.size w w' := by
 unfold gE
 by_cases h : validB M = true ∧ validB O = true
 ·
  have hM := isN_of_valid h.1
  have hO := isN_of_valid h.2
  rw [if_pos h]
  clear h
  by_cases h0 : nv O = 0
  ·
   rw [if_pos h0]
   have eO : O = ⟨#[]⟩ := by rw [h0] at hO; exact empty_of hO
   subst eO
   by_cases h1 : nv M = 0
   ·
    have eM : M = ⟨#[]⟩ := by rw [h1] at hM; exact empty_of hM
    subst eM
    exact r13Check_zero w
   ·
    exact r13Check_unit M (nv M) w hM (by omega) _ rfl
  ·
   rw [if_neg h0]
   by_cases h1 : nv M < 2 ∨ nv O = 1
   ·
    rw [if_neg fun h => by omega]
    exact r13Check_low M O (nv M) (nv O) w hM hO (by omega) h1
   ·
    refine r13Check_div M O (nv M) (nv O) w hM hO (by omega) (by omega) _ ?_
    by_cases h4 : (nv M - 1) % nv O = 0
    ·
     rw [if_pos ⟨by omega, by omega, h4⟩, if_pos h4]
    ·
     rw [if_neg fun h => h4 h.2.2, if_neg h4]
 ·
  rw [if_neg h]
  exact r13Check_three M O w h
theorem r9form_yes (M O : ByteArray) (w : World) (hM : validB M = true) (hO : validB O = true) :
  Calls Tryz.prog 202 #[.agg #[.string M, .string O]] w fun e w' => e = .returned (.bool true) ∧ Below w.heap.size w w' := by
 have hb := (Below.refl _ w).alloc (Nat.le_refl _) (.cells #[.string M, .string O] 27)
 have HM := Lib.hid hM
 have HO := Lib.hid hO
 clear hM hO
 go_enter Tryz.func202, Tryz.ntmps202
 go_wp2_with fail
 refine (refValid_any _ _).mono ?_; rw [HM.out]; rintro e w1 ⟨rfl, rfl⟩
 go_wp2_with fail
 refine (refValid_any _ _).mono ?_; rw [HO.out]; rintro e w1 ⟨rfl, rfl⟩
 go_wp2_with fail
 go_ret
 exact ⟨rfl, hb⟩
set_option maxHeartbeats 4000000 in
theorem r9Has_any (M O s : ByteArray) (m o x : Nat) (w : World) (hM : IsN M m) (hO : IsN O o) (h2 : 2 ≤ m) (h0 : 0 < o) (hs : IsN s x) (h64 : M.size ≤ 64) :
  Calls Tryz.prog 191 #[.agg #[.string M, .string O], .string s] w fun e w' => e = .returned (.bool (elN m o x)) ∧ Below w.heap.size w w' := by
 have hb := (Below.refl _ w).alloc (Nat.le_refl _) (.cells #[.string M, .string O] 27)
 have hG := GB.new w M O
 have HO := Lib.hid hO
 have HM := Lib.hid hM
 have HS := Lib.hid hs
 obtain ⟨n1, n2⟩ := tl_ne (hO.pos h0)
 by_cases x0 : x = 0
 ·
  have HR := Lib.hid (show elN m o x = false by unfold elN; rw [decide_eq_false (by simp [x0])]; rfl)
  have es : s = ⟨#[]⟩ := by rw [x0] at hs; exact empty_of hs
  subst es
  clear x0 hs hM hO h0
  go_enter Tryz.func191, Tryz.ntmps191
  go_wp2_with fail
  generalize w.alloc _ = w0 at hb hG ⊢
  have c0 := hG.c0
  have c1 := hG.c1
  go_wp2_with fail
  refine (r9form_yes M O _ HM.out.valid HO.out.valid).mono ?_; rintro e w1 ⟨rfl, b1⟩
  have hG1 := hG.below b1 hG.lt
  replace hb := hb.trans (b1.mono hb.size)
  clear c0 c1
  have c0 := hG1.c0
  have c1 := hG1.c1
  go_wp2_with fail
  refine (refValid_any _ _).mono ?_; rw [HS.out.valid]; rintro e w1 ⟨rfl, rfl⟩
  go_wp2_with fail
  go_ret
  exact ⟨ret_bool HR.out.symm, hb⟩
 obtain ⟨n3, n4⟩ := tl_ne (hs.pos (by omega))
 have HORD := Lib.hid (fun w => refOrder_any s M x m w hs.eq hM.eq (by have := hs.le; have := hs.size; omega) (by omega))
 by_cases xm : m ≤ x
 ·
  have HR := Lib.hid (show elN m o x = false by unfold elN; rw [decide_eq_false (by omega)]; rfl)
  have u1 : decide (0 ≤ ncmp x m) = true := by rw [nge_dec]; exact decide_eq_true xm
  clear x0 hs hM hO h0 xm
  go_enter Tryz.func191, Tryz.ntmps191
  go_wp2_with fail
  generalize w.alloc _ = w0 at hb hG ⊢
  have c0 := hG.c0
  have c1 := hG.c1
  go_wp2_with fail
  refine (r9form_yes M O _ HM.out.valid HO.out.valid).mono ?_; rintro e w1 ⟨rfl, b1⟩
  have hG1 := hG.below b1 hG.lt
  replace hb := hb.trans (b1.mono hb.size)
  clear c0 c1
  have c0 := hG1.c0
  have c1 := hG1.c1
  go_wp2_with fail
  refine (refValid_any _ _).mono ?_; rw [HS.out.valid]; rintro e w1 ⟨rfl, rfl⟩
  go_wp2_with fail
  refine (HORD.out _).mono ?_; rintro e w2 ⟨rfl, b2⟩
  go_wp2_with fail
  go_ret
  exact ⟨ret_bool HR.out.symm, hb.trans (b2.mono hb.size)⟩
 have u1 : decide (0 ≤ ncmp x m) = false := by rw [nge_dec]; exact decide_eq_false xm
 have hr : ∀ y, x ^ o % m = y → elN m o x = decide (y = 1) := by
  intro y hy; subst hy; unfold elN; rw [decide_eq_true (show x ≠ 0 ∧ x < m by omega), Bool.true_and]; exact decide_eq_decide.2 (by rw [if_neg (by omega)])
 have hx := refMExp_any s O M
 rw [chk21 hs hO hM (by omega), hs.nv, hO.nv, hM.nv, mo_zero] at hx
 have HX := Lib.hid (fun w => hx w h64)
 obtain ⟨y, hy⟩ : ∃ y, x ^ o % m = y := ⟨_, rfl⟩
 have HR := Lib.hid (hr y hy)
 rw [hy] at HX
 clear x0 hs hM hO h0 xm hr hx hy
 go_enter Tryz.func191, Tryz.ntmps191
 go_wp2_with fail
 generalize w.alloc _ = w0 at hb hG ⊢
 have c0 := hG.c0
 have c1 := hG.c1
 go_wp2_with fail
 refine (r9form_yes M O _ HM.out.valid HO.out.valid).mono ?_; rintro e w1 ⟨rfl, b1⟩
 have hG1 := hG.below b1 hG.lt
 replace hb := hb.trans (b1.mono hb.size)
 clear b1 hG c0 c1
 have c0 := hG1.c0
 have c1 := hG1.c1
 go_wp2_with fail
 refine (refValid_any _ _).mono ?_; rw [HS.out.valid]; rintro e w1 ⟨rfl, rfl⟩
 go_wp2_with fail
 refine (HORD.out _).mono ?_; rintro e w2 ⟨rfl, b2⟩
 have hG2 := hG1.below b2 hG1.lt
 replace hb := hb.trans (b2.mono hb.size)
 clear b2 hG1 c0 c1
 have c0 := hG2.c0
 have c1 := hG2.c1
 go_wp2_with fail
 refine (HX.out _).mono ?_; rintro e w3 ⟨rfl, b3⟩
 replace hb := hb.trans (b3.mono hb.size)
 clear b3 hG2 c0 c1
 by_cases y1 : y = 1
 ·
  subst y1
  have e1 : ((enc 1).toList == [1]) = true := by decide +kernel
  have e2 := one_list
  go_wp2_with fail
  go_ret
  exact ⟨ret_bool (by rw [HR.out]; rfl), hb⟩
 ·
  obtain ⟨e1, e2⟩ := enc_ne y1
  rw [one_list] at e1 e2
  replace HR := Lib.hid (HR.out.trans (decide_eq_false y1))
  clear y1
  go_wp2_with fail
  go_ret
  exact ⟨ret_bool HR.out.symm, hb⟩
set_option maxHeartbeats 4000000 in
theorem r13has_any (M O s : ByteArray) (w : World) (h : gE M O = 0) (hv : validB s = true) (h64 : M.size ≤ 64) :
  Calls Tryz.prog 168 #[.agg #[.string M, .string O], .string s] w fun e w' => e = .returned (.bool (elN (nv M) (nv O) (nv s))) ∧ Below w.heap.size w w' := by
 obtain ⟨hM, hO, h2, h3⟩ := gE_ok h
 have hs := isN_of_valid hv
 have hb := (Below.refl _ w).alloc (Nat.le_refl _) (.cells #[.string M, .string O] 27)
 have hG := GB.new w M O
 by_cases h0 : nv O = 0
 ·
  have eO : O = ⟨#[]⟩ := by rw [h0] at hO; exact empty_of hO
  subst eO
  rw [h0]
  obtain ⟨x, hx⟩ : ∃ x, nv s = x := ⟨_, rfl⟩
  obtain ⟨m, hm⟩ : ∃ x, nv M = x := ⟨_, rfl⟩
  rw [hx] at hs ⊢
  rw [hm] at hM h2 ⊢
  clear hx hm h h3 hO h0
  by_cases x0 : x = 0
  ·
   have HR := Lib.hid (show elN m 0 x = false by unfold elN; rw [decide_eq_false (by simp [x0])]; rfl)
   have es : s = ⟨#[]⟩ := by rw [x0] at hs; exact empty_of hs
   subst es
   clear x0 hs hM
   go_enter Tryz.func168, Tryz.ntmps168
   go_wp2_with fail
   generalize w.alloc _ = w0 at hb hG ⊢
   have c0 := hG.c0
   have c1 := hG.c1
   go_wp2_with fail
   go_ret
   exact ⟨ret_bool HR.out.symm, hb⟩
  obtain ⟨n3, n4⟩ := tl_ne (hs.pos (by omega))
  have HORD := Lib.hid (fun w => refOrder_any s M x m w hs.eq hM.eq (by have := hs.le; have := hs.size; omega) (by omega))
  have HCOM := Lib.hid (fun w => refCommon_any s M x m w hs hM)
  by_cases xm : m ≤ x
  ·
   have HR := Lib.hid (show elN m 0 x = false by unfold elN; rw [decide_eq_false (by omega)]; rfl)
   have u1 : decide (ncmp x m < 0) = false := by rw [nlt_dec]; exact decide_eq_false (by omega)
   clear x0 hs hM xm
   go_enter Tryz.func168, Tryz.ntmps168
   go_wp2_with fail
   generalize w.alloc _ = w0 at hb hG ⊢
   have c0 := hG.c0
   have c1 := hG.c1
   go_wp2_with fail
   refine (HORD.out _).mono ?_; rintro e w2 ⟨rfl, b2⟩
   go_wp2_with fail
   go_ret
   exact ⟨ret_bool HR.out.symm, hb.trans (b2.mono hb.size)⟩
  have u1 : decide (ncmp x m < 0) = true := by rw [nlt_dec]; exact decide_eq_true (by omega)
  have hr : ∀ y, Nat.gcd x m = y → elN m 0 x = decide (y = 1) := by
   intro y hy; subst hy; unfold elN; rw [decide_eq_true (show x ≠ 0 ∧ x < m by omega), Bool.true_and]; exact decide_eq_decide.2 (by rw [if_pos rfl])
  obtain ⟨y, hy⟩ : ∃ y, Nat.gcd x m = y := ⟨_, rfl⟩
  have HR := Lib.hid (hr y hy)
  rw [hy] at HCOM
  clear x0 hs hM xm hr hy
  go_enter Tryz.func168, Tryz.ntmps168
  go_wp2_with fail
  generalize w.alloc _ = w0 at hb hG ⊢
  have c0 := hG.c0
  have c1 := hG.c1
  go_wp2_with fail
  refine (HORD.out _).mono ?_; rintro e w2 ⟨rfl, b2⟩
  have hG2 := hG.below b2 hG.lt
  replace hb := hb.trans (b2.mono hb.size)
  clear b2 hG c0 c1
  have c0 := hG2.c0
  have c1 := hG2.c1
  go_wp2_with fail
  refine (HCOM.out _).mono ?_; rintro e w3 ⟨rfl, b3⟩
  replace hb := hb.trans (b3.mono hb.size)
  clear b3 hG2 c0 c1
  by_cases y1 : y = 1
  ·
   subst y1
   have e1 : ((enc 1).toList == [1]) = true := by decide +kernel
   have e2 := one_list
   go_wp2_with fail
   go_ret
   exact ⟨ret_bool (by rw [HR.out]; rfl), hb⟩
  ·
   obtain ⟨e1, e2⟩ := enc_ne y1
   rw [one_list] at e1 e2
   replace HR := Lib.hid (HR.out.trans (decide_eq_false y1))
   clear y1
   go_wp2_with fail
   go_ret
   exact ⟨ret_bool HR.out.symm, hb⟩
 ·
  have HH := Lib.hid (fun w => r9Has_any M O s (nv M) (nv O) (nv s) w hM hO h2 (by omega) hs h64)
  obtain ⟨n1, n2⟩ := tl_ne (hO.pos (by omega))
  clear h hM hO h2 h3 h0 hs
  go_enter Tryz.func168, Tryz.ntmps168
  go_wp2_with fail
  generalize w.alloc _ = w0 at hb hG ⊢
  have c0 := hG.c0
  have c1 := hG.c1
  go_wp2_with fail
  refine (HH.out _).mono ?_; rintro e w1 ⟨rfl, b1⟩
  go_wp2_with fail
  go_ret
  exact ⟨rfl, hb.trans (b1.mono hb.size)⟩
end Go.Proofs.YtdhhbjmkdmbffaaGreatDoor

/- The reference of layer 13: Has, raw, Mul, Exp. -/
namespace Go.Proofs.YtdhhbjmkdmbffaaGreatDoor
open Go.RowKit Num
set_option maxRecDepth 20000
set_option linter.unusedVariables false
theorem pwS_el {M O s t : ByteArray} {ng : Bool} (h : gE M O = 0) (hv : validB s = true) (he : elN (nv M) (nv O) (nv s) = true) (ht : ivB (ng, t) = true) :
  pwE s ng t M = 0 ∧ pwS s ng t M = enc (sb (nv M) (nv s) ng ^ nv t % nv M) := by
 obtain ⟨hM, hO, h2, h3⟩ := gE_ok h
 have hs := isN_of_valid hv
 unfold ivB at ht
 rw [Bool.and_eq_true, Bool.not_eq_true'] at ht
 have h1 : pwE s ng t M = 0 := by
  unfold pwE
  rw [if_pos ht]
  cases ng
  ·
   rw [if_neg (by decide)]; exact chk11 hs hM (by omega)
  ·
   rw [if_pos rfl]
   unfold ivE
   rw [if_pos (chk11 hs hM (by omega)), if_pos (el_unit he)]
 refine ⟨h1, ?_⟩
 rw [pwS, h1, mo_zero]
 rfl
set_option maxHeartbeats 1000000 in
theorem r13Has_any (M O s : ByteArray) (w : World) (h64 : M.size ≤ 64) :
  Calls Tryz.prog 139 #[.agg #[.string M, .string O], .string s] w fun e w' => e = .returned (.bool (hasB M O s)) ∧ Below w.heap.size w w' := by
 have hb := (Below.refl _ w).alloc (Nat.le_refl _) (.cells #[.string M, .string O] 27)
 have hG := GB.new w M O
 rcases gE_cases M O with h | h | h
 ·
  cases hv : validB s
  ·
   have hr : hasB M O s = false := by unfold hasB; rw [hv, Bool.false_and, Bool.and_false]
   rw [hr]
   have HE := Lib.hid h
   have HV := Lib.hid hv
   clear hr h hv
   go_enter Tryz.func139, Tryz.ntmps139
   go_wp2_with fail
   generalize w.alloc _ = w0 at hb hG ⊢
   have c0 := hG.c0
   have c1 := hG.c1
   go_wp2_with fail
   refine (r13Check_any M O _).mono ?_; rw [HE.out]; rintro e w1 ⟨rfl, b1⟩
   go_wp2_with fail
   refine (refValid_any s _).mono ?_; rw [HV.out]; rintro e w2 ⟨rfl, rfl⟩
   go_wp2_with fail
   go_ret
   exact ⟨rfl, hb.trans (b1.mono hb.size)⟩
  ·
   have hr : hasB M O s = elN (nv M) (nv O) (nv s) := by unfold hasB; rw [decide_eq_true h, Bool.true_and, hv, Bool.true_and]
   rw [hr]
   have HH := Lib.hid (fun w => r13has_any M O s w h hv h64)
   have HE := Lib.hid h
   have HV := Lib.hid hv
   clear hr h hv
   go_enter Tryz.func139, Tryz.ntmps139
   go_wp2_with fail
   generalize w.alloc _ = w0 at hb hG ⊢
   have c0 := hG.c0
   have c1 := hG.c1
   go_wp2_with fail
   refine (r13Check_any M O _).mono ?_; rw [HE.out]; rintro e w1 ⟨rfl, b1⟩
   have hG1 := hG.below b1 hG.lt
   replace hb := hb.trans (b1.mono hb.size)
   clear b1 hG c0 c1
   have c0 := hG1.c0
   have c1 := hG1.c1
   go_wp2_with fail
   refine (refValid_any s _).mono ?_; rw [HV.out]; rintro e w2 ⟨rfl, rfl⟩
   go_wp2_with fail
   refine (HH.out _).mono ?_; rintro e w2 ⟨rfl, b2⟩
   go_wp2_with fail
   go_ret
   exact ⟨rfl, hb.trans (b2.mono hb.size)⟩
 all_goals
  have hr : hasB M O s = false := by unfold hasB; rw [h]; rfl
  rw [hr]
  have HE := Lib.hid h
  clear hr h
  go_enter Tryz.func139, Tryz.ntmps139
  go_wp2_with fail
  generalize w.alloc _ = w0 at hb hG ⊢
  have c0 := hG.c0
  have c1 := hG.c1
  go_wp2_with fail
  refine (r13Check_any M O _).mono ?_; rw [HE.out]; rintro e w1 ⟨rfl, b1⟩
  go_wp2_with fail
  go_ret
  exact ⟨rfl, hb.trans (b1.mono hb.size)⟩
end Go.Proofs.YtdhhbjmkdmbffaaGreatDoor

/- The reference of layer 13: Exp, Product. -/
namespace Go.Proofs.YtdhhbjmkdmbffaaGreatDoor
open Go.RowKit Num
set_option maxRecDepth 20000
set_option linter.unusedVariables false
theorem gpE_single (M O x : ByteArray) (e : Bool × ByteArray) : gpE M O [x] [e] = ckE M O [x] [e] true := rfl
theorem gp_el {M O x t : ByteArray} {ng : Bool} (h : gE M O = 0) (hv : validB x = true) (he : elN (nv M) (nv O) (nv x) = true) (ht : ivB (ng, t) = true) :
  gpE M O [x] [(ng, t)] = 0 ∧ gpS M O [x] [(ng, t)] = pwS x ng t M := by
 have h1 : gpE M O [x] [(ng, t)] = 0 := by
  rw [gpE_single, ck_last ⟨by simp [hv], by simp [ht]⟩ h, if_pos (by simp [he])]
 refine ⟨h1, ?_⟩
 rw [gpS, h1, mo_zero, (pwS_el h hv he ht).2]
 simp [prs, pr]
end Go.Proofs.YtdhhbjmkdmbffaaGreatDoor

/- The reference of layer 13: Product. -/
namespace Go.Proofs.YtdhhbjmkdmbffaaGreatDoor
open Go.RowKit Num
set_option maxRecDepth 20000
set_option linter.unusedVariables false
theorem pr_snoc_mod {m : Nat} (L : List (Nat × Nat)) (k : Nat) (hk : k < L.length) : pr (L.take k) % m * (L[k].1 ^ L[k].2 % m) % m = pr (L.take (k + 1)) % m := by
 rw [pr_take_succ L k hk, ← Nat.mul_mod]
end Go.Proofs.YtdhhbjmkdmbffaaGreatDoor

/- The reference of layer 15: formed, many, Order. -/
namespace Go.Proofs.YtdhhbjmkdmbffaaGreatDoor
open Go.RowKit Num
set_option maxRecDepth 20000
set_option linter.unusedVariables false
theorem rvalidQ {s : ByteArray} {b : Bool} (h : validB s = b) : ∀ w, Calls Tryz.prog 93 #[.string s] w fun e w' => e = .returned (.bool b) ∧ w = w' := fun w => (refValid_any s w).mono fun _ _ ⟨h1, h2⟩ => ⟨by rw [h1, h], h2⟩
theorem rivalidW {g : Bool} {s : ByteArray} {b : Bool} (h : ivB (g, s) = b) : ∀ w, Calls Tryz.prog 94 #[.agg #[.bool g, .string s]] w fun e w' => e = .returned (.bool b) ∧ Below w.heap.size w w' := fun w => (ref2Valid_any g s w).mono fun _ _ ⟨h1, h2⟩ => ⟨by rw [h1, ← h]; rfl, h2⟩
theorem fmQ_eq2 (m n : Nat) (i : Int) (T : ByteArray) (ta : Option Addr) (tc : Nat) (L : List TmR) : fmQ m n (eqp (i, T, ta, tc, L)) = (validB T && (decide (0 ≤ i) && (decide (i < (m : Int)) && L.all (fmT n)))) := by
 rw [fmQ_eq]
 cases decide (0 ≤ i) <;> cases decide (i < (m : Int)) <;> cases validB T <;> rfl
theorem fmT_eq2 (n : Nat) (s : ByteArray) (u : Int) (g : Bool) (E : ByteArray) : fmT n (s, u, g, E) = (validB s && (ivB (g, E) && (decide (0 ≤ u) && decide (u < (n : Int))))) := by
 rw [fmT_eq]
 cases decide (0 ≤ u) <;> cases decide (u < (n : Int)) <;> cases validB s <;> cases ivB (g, E) <;> rfl
set_option maxHeartbeats 8000000 in
theorem rformed_any (a : StA) (S : StM) (w : World) (hS : SS w a S) (hok : S.ok) :
  Calls Tryz.prog 45 #[.agg #[.slice a.ga S.G.length a.gc, .slice a.va S.V.length a.vc, .slice a.qa S.Q.length a.qc]] w fun e w' => e = .returned (.bool (formB S.pl)) ∧ Below w.heap.size w w' := by
 rw [formB_pl]
 have hb := (Below.refl _ w).alloc (Nat.le_refl _) (.cells #[.slice a.ga S.G.length a.gc, .slice a.va S.V.length a.vc, .slice a.qa S.Q.length a.qc] 49)
 have hX := SXB.new w a S
 have hS0 := hS.below hb (Nat.le_refl _)
 obtain ⟨ga, gc, va, vc, qa, qc⟩ := a
 obtain ⟨G, W, Q⟩ := S
 simp only at hb hX hS0 ⊢
 have HG := Lib.hid hS0.g
 have HV := Lib.hid hS0.v
 have HQ := Lib.hid hS0.q
 have hX0 := hX.c0
 have hX1 := hX.c1
 have hX2 := hX.c2
 have l1 : G.length ≤ maxLen := hok.gl
 have l2 : W.length ≤ maxLen := hok.vl
 have l3 : Q.length ≤ maxLen := hok.ql
 have l4 : Hid (∀ q ∈ Q, q.2.2.2.2.length ≤ maxLen) := fun q hq => (hok.q q hq).2.2.1
 simp only at HG HV HQ hX0 hX1 hX2
 unfold maxLen at l1 l2 l3 l4
 clear hS hS0 hok
 obtain ⟨ng, hng⟩ : ∃ n, G.length = n := ⟨_, rfl⟩
 obtain ⟨nw, hnv⟩ : ∃ n, W.length = n := ⟨_, rfl⟩
 obtain ⟨mq, hnq⟩ : ∃ n, Q.length = n := ⟨_, rfl⟩
 simp only [hng, hnv, hnq] at hb hX0 hX1 hX2 l1 l2 l3 HG HV HQ ⊢
 have HNG := Lib.hid hng
 have HNV := Lib.hid hnv
 have HNQ := Lib.hid hnq
 obtain ⟨R2, hR2⟩ : ∃ R, Q.all (fun q => fmQ ng nw (eqp q)) = R := ⟨_, rfl⟩
 obtain ⟨R1, hR1⟩ : ∃ R, (W.all validB && R2) = R := ⟨_, rfl⟩
 rw [hR2, hR1]
 obtain ⟨V, hV⟩ : ∃ V, (G.all fmG && R1) = V := ⟨_, rfl⟩
 rw [hV]
 have H0 : Hid (((G.drop 0).all fmG && R1) = V) := hV
 have H1 : Hid (((W.drop 0).all validB && R2) = R1) := hR1
 have H2 : Hid ((Q.drop 0).all (fun q => fmQ ng nw (eqp q)) = R2) := hR2
 clear hng hnv hnq hR2 hR1 hV hX
 go_enter Tryz.func45, Tryz.ntmps45
 go_wp2_with fail
 generalize World.alloc _ _ = w0 at hb hX0 hX1 hX2 HG HV HQ ⊢
 go_wp2_with fail
 go_loopw [3] (fun v3 wr => ∃ k : Nat, k ≤ ng ∧ v3 = .int .i64 (k : Int) ∧ Hid (((G.drop k).all fmG && R1) = V) ∧ Below w0.heap.size w0 wr) (fun v3 _ => ng - (intOf v3).toNat)
 case atStart => exact ⟨0, by omega, rfl, H0, Below.refl _ _⟩
 case round =>
  clear H0
  obtain ⟨k, hk, rfl, hP, hB⟩ := hrel
  have hbw := hb.trans (hB.mono hb.size)
  have d0 := cells_keepL hB (Nat.le_refl _) _ _ hX0
  have d1 := cells_keepL hB (Nat.le_refl _) _ _ hX1
  have d2 := cells_keepL hB (Nat.le_refl _) _ _ hX2
  by_cases hlt : k < ng
  ·
   have hkG : k < G.length := by rw [HNG.out]; exact hlt
   obtain ⟨b, off, rfl, e0, e1⟩ := (HG.out.keep (cells_keepL hB (Nat.le_refl _))) k hkG
   have hw := hP.out
   rw [List.drop_eq_getElem_cons hkG, List.all_cons] at hw
   generalize G[k] = x at e0 e1 hw
   obtain ⟨M, O⟩ := x
   simp only [fmG] at e0 e1 hw
   clear hP hkG
   cases hv : validB M
   ·
    rw [hv] at hw
    obtain rfl : V = false := by rw [← hw]; rfl
    have HVM := Lib.hid (rvalidQ hv)
    clear hv hw
    go_wp2_with fail
    refine (HVM.out _).mono ?_; rintro e w1 ⟨rfl, rfl⟩
    go_wp2_with fail
    go_ret
    exact ⟨rfl, hbw⟩
   ·
    have HVM := Lib.hid (rvalidQ hv)
    rw [hv, Bool.true_and] at hw
    clear hv
    cases hv : validB O
    ·
     rw [hv] at hw
     obtain rfl : V = false := by rw [← hw]; rfl
     have HVO := Lib.hid (rvalidQ hv)
     clear hv hw
     go_wp2_with fail
     refine (HVM.out _).mono ?_; rintro e w1 ⟨rfl, rfl⟩
     go_wp2_with fail
     refine (HVO.out _).mono ?_; rintro e w1 ⟨rfl, rfl⟩
     go_wp2_with fail
     go_ret
     exact ⟨rfl, hbw⟩
    ·
     have HVO := Lib.hid (rvalidQ hv)
     rw [hv, Bool.true_and] at hw
     have HW := Lib.hid hw
     clear hv hw
     go_wp2_with fail
     refine (HVM.out _).mono ?_; rintro e w1 ⟨rfl, rfl⟩
     go_wp2_with fail
     refine (HVO.out _).mono ?_; rintro e w1 ⟨rfl, rfl⟩
     go_wp2_with fail
     exact ⟨⟨k + 1, by omega, by go_num, HW, hB⟩, by simp [intOf]; omega⟩
  ·
   obtain rfl : ng = k := by omega
   have hw := hP.out
   rw [List.drop_of_length_le (by rw [HNG.out]; omega)] at hw
   obtain rfl : R1 = V := hw
   have HV2 := Lib.hid (HV.out.keepL (cells_keepL hB (Nat.le_refl _)))
   have HQ2 := Lib.hid (HQ.out.keep (cells_keepL hB (Nat.le_refl _)))
   clear hP hX0 hX1 hX2 HV HQ hb hB HG
   go_wp2_with fail
   obtain ⟨wo1, rfl⟩ : ∃ wo : World, wo = wr := ⟨_, rfl⟩
   go_loopw [4] (fun v4 wq => ∃ k : Nat, k ≤ nw ∧ v4 = .int .i64 (k : Int) ∧ Hid (((W.drop k).all validB && R2) = R1) ∧ Below wo1.heap.size wo1 wq) (fun v4 _ => nw - (intOf v4).toNat)
   case atStart => exact ⟨0, by omega, rfl, H1, Below.refl _ _⟩
   case round =>
    clear H1
    obtain ⟨k, hk, rfl, hP, hB⟩ := hrel
    have hbq := hbw.trans (hB.mono hbw.size)
    have x0 := cells_keepL hB (Nat.le_refl _) _ _ d0
    have x1 := cells_keepL hB (Nat.le_refl _) _ _ d1
    have x2 := cells_keepL hB (Nat.le_refl _) _ _ d2
    by_cases hlt : k < nw
    ·
     have hkG : k < W.length := by rw [HNV.out]; exact hlt
     obtain ⟨b, off, rfl, e0⟩ := (HV2.out.keepL (cells_keepL hB (Nat.le_refl _))) k hkG
     have hw := hP.out
     rw [List.drop_eq_getElem_cons hkG, List.all_cons] at hw
     generalize W[k] = x at e0 hw
     clear hP hkG hbw
     cases hv : validB x
     ·
      rw [hv] at hw
      obtain rfl : R1 = false := by rw [← hw]; rfl
      have HVM := Lib.hid (rvalidQ hv)
      clear hv hw
      go_wp2_with fail
      refine (HVM.out _).mono ?_; rintro e w1 ⟨rfl, rfl⟩
      go_wp2_with fail
      go_ret
      exact ⟨rfl, hbq⟩
     ·
      have HVM := Lib.hid (rvalidQ hv)
      rw [hv, Bool.true_and] at hw
      have HW := Lib.hid hw
      clear hv hw
      go_wp2_with fail
      refine (HVM.out _).mono ?_; rintro e w1 ⟨rfl, rfl⟩
      go_wp2_with fail
      exact ⟨⟨k + 1, by omega, by go_num, HW, hB⟩, by simp [intOf]; omega⟩
    ·
     obtain rfl : nw = k := by omega
     have hw := hP.out
     rw [List.drop_of_length_le (by rw [HNV.out]; omega)] at hw
     obtain rfl : R2 = R1 := hw
     have HQ3 := Lib.hid (HQ2.out.keep (cells_keepL hB (Nat.le_refl _)))
     clear hP HV2 HQ2 d0 d1 d2 hbw hB
     go_wp2_with fail
     obtain ⟨wo2, rfl⟩ : ∃ wo : World, wo = wr := ⟨_, rfl⟩
     go_loopw [5] (fun v5 we => ∃ k : Nat, k ≤ mq ∧ v5 = .int .i64 (k : Int) ∧ Hid ((Q.drop k).all (fun q => fmQ ng nw (eqp q)) = R2) ∧ Below wo2.heap.size wo2 we) (fun v5 _ => mq - (intOf v5).toNat)
     case atStart => exact ⟨0, by omega, rfl, H2, Below.refl _ _⟩
     case round =>
      clear H2
      obtain ⟨k, hk, rfl, hP, hB⟩ := hrel
      have hbe := hbq.trans (hB.mono hbq.size)
      have d0 := cells_keepL hB (Nat.le_refl _) _ _ x0
      have d1 := cells_keepL hB (Nat.le_refl _) _ _ x1
      have d2 := cells_keepL hB (Nat.le_refl _) _ _ x2
      by_cases hlt : k < mq
      ·
       have hkG : k < Q.length := by rw [HNQ.out]; exact hlt
       have hlx := l4.out _ (List.getElem_mem hkG)
       obtain ⟨b, off, rfl, e0, e1, e2, hT⟩ := (HQ3.out.keep (cells_keepL hB (Nat.le_refl _))) k hkG
       have hw := hP.out
       rw [List.drop_eq_getElem_cons hkG, List.all_cons] at hw
       generalize Q[k] = x at e0 e1 e2 hT hlx hw
       obtain ⟨i, T, ta, tc, L⟩ := x
       rw [fmQ_eq2] at hw
       simp only at e0 e1 e2 hT hlx
       obtain ⟨nt, hnt⟩ : ∃ n, L.length = n := ⟨_, rfl⟩
       rw [hnt] at e2 hlx
       have HNT := Lib.hid hnt
       have hN := QB.new wr i T (.slice ta nt tc)
       have hbN := (Below.refl _ wr).alloc (Nat.le_refl _) (.cells #[.int .i64 i, .string T, .slice ta nt tc] 46)
       have hbf := hbe.trans (hbN.mono hbe.size)
       have hB2 := hB.trans (hbN.mono hB.size)
       have n0 := hN.c0
       have n1 := hN.c1
       have n2 := hN.c2
       have HT := Lib.hid (hT.keep (cells_keepL hbN (Nat.le_refl _)))
       have y0 := cells_keepL hbN (Nat.le_refl _) _ _ d0
       have y1 := cells_keepL hbN (Nat.le_refl _) _ _ d1
       clear hP hkG hB hbe hT d0 d1 x0 x1 x2 hnt
       cases hv : validB T
       ·
        rw [hv] at hw
        obtain rfl : R2 = false := by rw [← hw]; rfl
        have HVM := Lib.hid (rvalidQ hv)
        clear hv hw hN
        go_wp2_with fail
        refine (HVM.out _).mono ?_; rintro e w1 ⟨rfl, rfl⟩
        go_wp2_with fail
        go_ret
        exact ⟨rfl, hbf⟩
       have HVM := Lib.hid (rvalidQ hv)
       rw [hv, Bool.true_and] at hw
       clear hv
       by_cases t1 : i < 0
       ·
        obtain rfl : R2 = false := by rw [← hw, decide_eq_false (show ¬ 0 ≤ i by omega)]; rfl
        have e3 : decide (i < 0) = true := decide_eq_true t1
        clear hw hN
        go_wp2_with fail
        refine (HVM.out _).mono ?_; rintro e w1 ⟨rfl, rfl⟩
        go_wp2_with fail
        go_ret
        exact ⟨rfl, hbf⟩
       have e3 : decide (i < 0) = false := decide_eq_false t1
       by_cases t2 : (ng : Int) ≤ i
       ·
        obtain rfl : R2 = false := by rw [← hw, decide_eq_false (show ¬ i < (ng : Int) by omega)]; simp
        have e4 : decide ((ng : Int) ≤ i) = true := decide_eq_true t2
        clear hw hN
        go_wp2_with fail
        refine (HVM.out _).mono ?_; rintro e w1 ⟨rfl, rfl⟩
        go_wp2_with fail
        go_ret
        exact ⟨rfl, hbf⟩
       have e4 : decide ((ng : Int) ≤ i) = false := decide_eq_false t2
       rw [decide_eq_true (show 0 ≤ i by omega), decide_eq_true (show i < (ng : Int) by omega), Bool.true_and, Bool.true_and] at hw
       obtain ⟨R3, hR3⟩ : ∃ R, ((Q.drop (k + 1)).all fun q => fmQ ng nw (eqp q)) = R := ⟨_, rfl⟩
       have HR3 := Lib.hid hR3
       have H3 : Hid (((L.drop 0).all (fmT nw) && R3) = R2) := by
        show _ = _
        rw [← hR3]
        exact hw
       clear hw hR3
       go_wp2_with fail
       refine (HVM.out _).mono ?_; rintro e w1 ⟨rfl, rfl⟩
       go_wp2_with fail
       clear n0 n1 n2
       generalize wr.heap.size = p6 at hN ⊢
       generalize World.alloc _ _ = w5 at hbN hbf hB2 hN HT y0 y1 ⊢
       go_loopw [7] (fun v7 wt => ∃ j : Nat, j ≤ nt ∧ v7 = .int .i64 (j : Int) ∧ Hid (((L.drop j).all (fmT nw) && R3) = R2) ∧ Below w5.heap.size w5 wt) (fun v7 _ => nt - (intOf v7).toNat)
       case atStart => exact ⟨0, by omega, rfl, H3, Below.refl _ _⟩
       case round =>
        clear H3
        obtain ⟨j, hj, rfl, hP, hB⟩ := hrel
        have hbt := hbf.trans (hB.mono hbf.size)
        have z0 := cells_keepL hB (Nat.le_refl _) _ _ y0
        have z1 := cells_keepL hB (Nat.le_refl _) _ _ y1
        have hQ2 := hN.below hB hN.lt
        have n2 := hQ2.c2
        by_cases hlj : j < nt
        ·
         have hjL : j < L.length := by rw [HNT.out]; exact hlj
         obtain ⟨b, off, rfl, e5, e6, e7, e8⟩ := (HT.out.keep (cells_keepL hB (Nat.le_refl _))) j hjL
         have hw := hP.out
         rw [List.drop_eq_getElem_cons hjL, List.all_cons] at hw
         generalize L[j] = x at e5 e6 e7 e8 hw
         obtain ⟨s, u, g, E⟩ := x
         rw [fmT_eq2] at hw
         simp only at e5 e6 e7 e8
         have hM := TmB.new wr s u g E
         have hbM := (Below.refl _ wr).alloc (Nat.le_refl _) (.cells #[.string s, .int .i64 u, .bool g, .string E] 43)
         have hbg := hbt.trans (hbM.mono hbt.size)
         have hB3 := hB.trans (hbM.mono hB.size)
         have m0 := hM.c0
         have m1 := hM.c1
         have m2 := hM.c2
         have m3 := hM.c3
         have z3 := cells_keepL hbM (Nat.le_refl _) _ _ z1
         clear hP hjL hB hbt hbN hbf hB2 y0 y1 z0 hN hQ2
         cases hv : validB s
         ·
          rw [hv] at hw
          obtain rfl : R2 = false := by rw [← hw]; rfl
          have HVS := Lib.hid (rvalidQ hv)
          clear hv hw
          go_wp2_with fail
          refine (HVS.out _).mono ?_; rintro e w1 ⟨rfl, rfl⟩
          go_wp2_with fail
          go_ret
          exact ⟨rfl, hbg⟩
         have HVS := Lib.hid (rvalidQ hv)
         rw [hv, Bool.true_and] at hw
         clear hv
         cases hv : ivB (g, E)
         ·
          rw [hv] at hw
          obtain rfl : R2 = false := by rw [← hw]; rfl
          have HVI := Lib.hid (rivalidW hv)
          clear hv hw
          go_wp2_with fail
          refine (HVS.out _).mono ?_; rintro e w1 ⟨rfl, rfl⟩
          go_wp2_with fail
          refine (HVI.out _).mono ?_; rintro e w1 ⟨rfl, b1⟩
          have hbh := hbg.trans (b1.mono hbg.size)
          go_wp2_with fail
          go_ret
          exact ⟨rfl, hbh⟩
         have HVI := Lib.hid (rivalidW hv)
         rw [hv, Bool.true_and] at hw
         clear hv
         by_cases t3 : u < 0
         ·
          obtain rfl : R2 = false := by rw [← hw, decide_eq_false (show ¬ 0 ≤ u by omega)]; rfl
          have e9 : decide (u < 0) = true := decide_eq_true t3
          clear hw
          go_wp2_with fail
          clear e5 e6 e7 e8 z1 n2
          generalize hw6 : World.alloc wr _ = w6 at hM hbM hbg hB3 m0 m1 m2 m3 z3 ⊢
          clear hw6
          refine (HVS.out _).mono ?_; rintro e w1 ⟨rfl, rfl⟩
          go_wp2_with fail
          refine (HVI.out _).mono ?_; rintro e w1 ⟨rfl, b1⟩
          have hbh := hbg.trans (b1.mono hbg.size)
          have k1 := (hM.below b1 hM.lt).c1
          go_wp2_with fail
          go_ret
          exact ⟨rfl, hbh⟩
         have e9 : decide (u < 0) = false := decide_eq_false t3
         by_cases t4 : (nw : Int) ≤ u
         ·
          obtain rfl : R2 = false := by rw [← hw, decide_eq_false (show ¬ u < (nw : Int) by omega)]; simp
          have e10 : decide ((nw : Int) ≤ u) = true := decide_eq_true t4
          clear hw
          go_wp2_with fail
          clear e5 e6 e7 e8 z1 n2
          generalize hw6 : World.alloc wr _ = w6 at hM hbM hbg hB3 m0 m1 m2 m3 z3 ⊢
          clear hw6
          refine (HVS.out _).mono ?_; rintro e w1 ⟨rfl, rfl⟩
          go_wp2_with fail
          refine (HVI.out _).mono ?_; rintro e w1 ⟨rfl, b1⟩
          have hbh := hbg.trans (b1.mono hbg.size)
          have k1 := (hM.below b1 hM.lt).c1
          have z4 := cells_keepL b1 (Nat.le_refl _) _ _ z3
          go_wp2_with fail
          go_ret
          exact ⟨rfl, hbh⟩
         have e10 : decide ((nw : Int) ≤ u) = false := decide_eq_false t4
         rw [decide_eq_true (show 0 ≤ u by omega), decide_eq_true (show u < (nw : Int) by omega), Bool.true_and, Bool.true_and] at hw
         have HW := Lib.hid hw
         clear hw
         go_wp2_with fail
         clear e5 e6 e7 e8 z1 n2
         generalize hw6 : World.alloc wr _ = w6 at hM hbM hbg hB3 m0 m1 m2 m3 z3 ⊢
         clear hw6
         refine (HVS.out _).mono ?_; rintro e w1 ⟨rfl, rfl⟩
         go_wp2_with fail
         refine (HVI.out _).mono ?_; rintro e w1 ⟨rfl, b1⟩
         have hB4 := hB3.trans (b1.mono hB3.size)
         have k1 := (hM.below b1 hM.lt).c1
         have z4 := cells_keepL b1 (Nat.le_refl _) _ _ z3
         go_wp2_with fail
         exact ⟨⟨j + 1, by omega, by go_num, HW, hB4⟩, by simp [intOf]; omega⟩
        ·
         obtain rfl : nt = j := by omega
         have hw := hP.out
         rw [List.drop_of_length_le (by rw [HNT.out]; omega)] at hw
         have hR : R3 = R2 := hw
         have hz : Hid (((Q.drop (k + 1)).all fun q => fmQ ng nw (eqp q)) = R2) := by rw [← hR]; exact HR3
         have hB5 := hB2.trans (hB.mono hB2.size)
         clear hP hR
         go_wp2_with fail
         exact ⟨⟨k + 1, by omega, by go_num, hz, hB5⟩, by simp [intOf]; omega⟩
      ·
       obtain rfl : mq = k := by omega
       have hw := hP.out
       rw [List.drop_of_length_le (by rw [HNQ.out]; omega)] at hw
       obtain rfl : true = R2 := hw
       clear hP
       go_wp2_with fail
       go_ret
       exact ⟨rfl, hbe⟩
set_option maxHeartbeats 4000000 in
theorem rmany_any (a : StA) (S : StM) (w : World) (hS : SS w a S) (hok : S.ok) :
  Calls Tryz.prog 95 #[.agg #[.slice a.ga S.G.length a.gc, .slice a.va S.V.length a.vc, .slice a.qa S.Q.length a.qc]] w fun e w' => e = .returned (.bool (manyB S.pl)) ∧ Below w.heap.size w w' := by
 have hmb : manyB S.pl = (S.Q.any (fun q => lgQ (eqp q)) || (decide (8 < S.G.length) || (decide (64 < S.V.length) || decide (64 < S.Q.length)))) := by
  rw [manyB_pl]
  cases decide (8 < S.G.length) <;> cases decide (64 < S.V.length) <;> cases decide (64 < S.Q.length) <;> cases S.Q.any (fun q => lgQ (eqp q)) <;> rfl
 rw [hmb]
 have hb := (Below.refl _ w).alloc (Nat.le_refl _) (.cells #[.slice a.ga S.G.length a.gc, .slice a.va S.V.length a.vc, .slice a.qa S.Q.length a.qc] 49)
 have hX := SXB.new w a S
 have hS0 := hS.below hb (Nat.le_refl _)
 obtain ⟨ga, gc, va, vc, qa, qc⟩ := a
 obtain ⟨G, W, Q⟩ := S
 simp only at hb hX hS0 ⊢
 have hX0 := hX.c0
 have hX1 := hX.c1
 have hX2 := hX.c2
 have HQ := Lib.hid hS0.q
 have l1 : G.length ≤ maxLen := hok.gl
 have l2 : W.length ≤ maxLen := hok.vl
 have l3 : Q.length ≤ maxLen := hok.ql
 have l4 : Hid (∀ q ∈ Q, q.2.2.2.2.length ≤ maxLen) := fun q hq => (hok.q q hq).2.2.1
 simp only at hX0 hX1 hX2 HQ
 unfold maxLen at l1 l2 l3 l4
 clear hS hS0 hok hX hmb
 obtain ⟨ng, hng⟩ : ∃ n, G.length = n := ⟨_, rfl⟩
 obtain ⟨nw, hnv⟩ : ∃ n, W.length = n := ⟨_, rfl⟩
 obtain ⟨mq, hnq⟩ : ∃ n, Q.length = n := ⟨_, rfl⟩
 simp only [hng, hnv, hnq] at hb hX0 hX1 hX2 l1 l2 l3 HQ ⊢
 have HNQ := Lib.hid hnq
 obtain ⟨R1, hR1⟩ : ∃ R, (decide (8 < ng) || (decide (64 < nw) || decide (64 < mq))) = R := ⟨_, rfl⟩
 rw [hR1]
 have HR1 := Lib.hid hR1
 obtain ⟨V, hV⟩ : ∃ V, (Q.any (fun q => lgQ (eqp q)) || R1) = V := ⟨_, rfl⟩
 rw [hV]
 have H0 : Hid (((Q.drop 0).any (fun q => lgQ (eqp q)) || R1) = V) := hV
 clear hng hnv hnq hR1 hV
 go_enter Tryz.func95, Tryz.ntmps95
 go_wp2_with fail
 generalize World.alloc _ _ = w0 at hb hX0 hX1 hX2 HQ ⊢
 go_wp2_with fail
 go_loopw [3] (fun v3 wr => ∃ k : Nat, k ≤ mq ∧ v3 = .int .i64 (k : Int) ∧ Hid (((Q.drop k).any (fun q => lgQ (eqp q)) || R1) = V) ∧ wr = w0) (fun v3 _ => mq - (intOf v3).toNat)
 case atStart => exact ⟨0, by omega, rfl, H0, rfl⟩
 case round =>
  clear H0
  obtain ⟨k, hk, rfl, hP, rfl⟩ := hrel
  by_cases hlt : k < mq
  ·
   have hkQ : k < Q.length := by rw [HNQ.out]; exact hlt
   have hlx := l4.out _ (List.getElem_mem hkQ)
   obtain ⟨b, off, rfl, e0, e1, e2, hT⟩ := HQ.out k hkQ
   have hw := hP.out
   rw [List.drop_eq_getElem_cons hkQ, List.any_cons] at hw
   clear hT
   generalize Q[k] = x at e0 e1 e2 hlx hw
   obtain ⟨i, T, ta, tc, L⟩ := x
   simp only at e0 e1 e2 hlx
   have hw2 : (decide (64 < L.length) || (Q.drop (k + 1)).any (fun q => lgQ (eqp q)) || R1) = V := hw
   clear hw
   generalize L.length = nt at e2 hlx hw2
   clear hP hkQ
   by_cases t1 : 64 < nt
   ·
    obtain rfl : V = true := by rw [← hw2, decide_eq_true t1]; simp
    have e3 : decide ((64 : Int) < (nt : Int)) = true := decide_eq_true (by omega)
    have e4 : (64 : Int) < (nt : Int) := by omega
    clear hw2
    go_wp2_with fail
    go_ret
    exact ⟨rfl, hb⟩
   ·
    have e3 : decide ((64 : Int) < (nt : Int)) = false := decide_eq_false (by omega)
    have e4 : ¬ (64 : Int) < (nt : Int) := by omega
    have HW : Hid (((Q.drop (k + 1)).any (fun q => lgQ (eqp q)) || R1) = V) := by rw [decide_eq_false t1, Bool.false_or] at hw2; exact hw2
    clear hw2
    go_wp2_with fail
    exact ⟨⟨k + 1, by omega, by go_num, HW, by trivial⟩, by simp [intOf]; omega⟩
  ·
   obtain rfl : mq = k := by omega
   have hw := hP.out
   rw [List.drop_of_length_le (by rw [HNQ.out]; omega)] at hw
   obtain rfl : R1 = V := hw
   have hr := HR1.out
   clear hP HR1
   by_cases t1 : 8 < ng
   ·
    obtain rfl : R1 = true := by rw [← hr, decide_eq_true t1]; rfl
    have e1 : decide ((8 : Int) < (ng : Int)) = true := decide_eq_true (by omega)
    have e1' : (8 : Int) < (ng : Int) := by omega
    clear hr
    go_wp2_with fail
    go_ret
    exact ⟨rfl, hb⟩
   have e1 : decide ((8 : Int) < (ng : Int)) = false := decide_eq_false (by omega)
   have e1' : ¬ (8 : Int) < (ng : Int) := by omega
   rw [decide_eq_false t1, Bool.false_or] at hr
   by_cases t2 : 64 < nw
   ·
    obtain rfl : R1 = true := by rw [← hr, decide_eq_true t2]; rfl
    have e2 : decide ((64 : Int) < (nw : Int)) = true := decide_eq_true (by omega)
    have e2' : (64 : Int) < (nw : Int) := by omega
    clear hr
    go_wp2_with fail
    go_ret
    exact ⟨rfl, hb⟩
   have e2 : decide ((64 : Int) < (nw : Int)) = false := decide_eq_false (by omega)
   have e2' : ¬ (64 : Int) < (nw : Int) := by omega
   rw [decide_eq_false t2, Bool.false_or] at hr
   by_cases t3 : 64 < mq
   ·
    obtain rfl : R1 = true := by rw [← hr, decide_eq_true t3]
    have e3 : decide ((64 : Int) < (mq : Int)) = true := decide_eq_true (by omega)
    have e3' : (64 : Int) < (mq : Int) := by omega
    clear hr
    go_wp2_with fail
    go_ret
    exact ⟨rfl, hb⟩
   ·
    obtain rfl : R1 = false := by rw [← hr, decide_eq_false t3]
    have e3 : decide ((64 : Int) < (mq : Int)) = false := decide_eq_false (by omega)
    have e3' : ¬ (64 : Int) < (mq : Int) := by omega
    clear hr
    go_wp2_with fail
    go_ret
    exact ⟨rfl, hb⟩
theorem rorder_any (a : StA) (S : StM) (w : World) (hS : SS w a S) (hok : S.ok) :
  Calls Tryz.prog 140 #[.agg #[.slice a.ga S.G.length a.gc, .slice a.va S.V.length a.vc, .slice a.qa S.Q.length a.qc]] w fun e w' => e = .returned (.string (ordL S.G)) ∧ Below w.heap.size w w' := by
 have hb := (Below.refl _ w).alloc (Nat.le_refl _) (.cells #[.slice a.ga S.G.length a.gc, .slice a.va S.V.length a.vc, .slice a.qa S.Q.length a.qc] 49)
 have hX := SXB.new w a S
 have hS0 := hS.below hb (Nat.le_refl _)
 obtain ⟨ga, gc, va, vc, qa, qc⟩ := a
 obtain ⟨G, W, Q⟩ := S
 simp only at hb hX hS0 ⊢
 have hX0 := hX.c0
 have HG := Lib.hid hS0.g
 have l1 : G.length ≤ maxLen := hok.gl
 simp only at hX0 HG
 unfold maxLen at l1
 clear hS hS0 hok hX
 obtain ⟨ng, hng⟩ : ∃ n, G.length = n := ⟨_, rfl⟩
 simp only [hng] at hb hX0 l1 HG ⊢
 have HNG := Lib.hid hng
 obtain ⟨R, hR⟩ : ∃ R, ordL G = R := ⟨_, rfl⟩
 rw [hR]
 have H0 : Hid (ordL (G.drop 0) = R) := hR
 clear hng hR
 go_enter Tryz.func140, Tryz.ntmps140
 go_wp2_with fail
 generalize World.alloc _ _ = w0 at hb hX0 HG ⊢
 go_wp2_with fail
 go_loopw [3] (fun v3 wr => ∃ k : Nat, k ≤ ng ∧ v3 = .int .i64 (k : Int) ∧ Hid (ordL (G.drop k) = R) ∧ wr = w0) (fun v3 _ => ng - (intOf v3).toNat)
 case atStart => exact ⟨0, by omega, rfl, H0, rfl⟩
 case round =>
  clear H0
  obtain ⟨k, hk, rfl, hP, rfl⟩ := hrel
  by_cases hlt : k < ng
  ·
   have hkG : k < G.length := by rw [HNG.out]; exact hlt
   obtain ⟨b, off, rfl, e0, e1⟩ := HG.out k hkG
   have hw := hP.out
   rw [List.drop_eq_getElem_cons hkG] at hw
   generalize G[k] = x at e0 e1 hw
   obtain ⟨M, O⟩ := x
   simp only [ordL] at e0 e1 hw
   clear hP hkG
   rcases em_cases O with ⟨h1, rfl⟩ | ⟨h1, h2, h3⟩
   ·
    rw [if_pos h1] at hw
    have HW := Lib.hid hw
    clear hw h1
    go_wp2_with fail
    exact ⟨⟨k + 1, by omega, by go_num, HW, by trivial⟩, by simp [intOf]; omega⟩
   ·
    rw [if_neg (by rw [h1]; decide)] at hw
    have HW := Lib.hid hw
    clear hw h1
    go_wp2_with fail
    go_ret
    exact ⟨by rw [HW.out]; rfl, hb⟩
  ·
   obtain rfl : k = ng := by omega
   have hw := hP.out
   rw [List.drop_of_length_le (by rw [HNG.out]; omega)] at hw
   have HW := Lib.hid hw
   clear hP hw
   go_wp2_with fail
   go_ret
   exact ⟨by rw [← HW.out]; rfl, hb⟩
end Go.Proofs.YtdhhbjmkdmbffaaGreatDoor

/- The reference of layer 15: elements, typed, rest, Check, check. -/
namespace Go.Proofs.YtdhhbjmkdmbffaaGreatDoor
open Go.RowKit Num
set_option maxRecDepth 20000
set_option linter.unusedVariables false
theorem keep5L {w w1 w2 : World} {K : Nat} {a1 a2 a3 a4 : Addr} {v1 v2 v3 v4 : Value} (h : w1.cell? a1 = some v1 ∧ w1.cell? a2 = some v2 ∧ w1.cell? a3 = some v3 ∧ w1.cell? a4 = some v4 ∧ Below K w w1) (hK : K ≤ w.heap.size) (b : Below w1.heap.size w1 w2) :
  w2.cell? a1 = some v1 ∧ w2.cell? a2 = some v2 ∧ w2.cell? a3 = some v3 ∧ w2.cell? a4 = some v4 ∧ Below K w w2 :=
 ⟨cells_keepL b (Nat.le_refl _) _ _ h.1, cells_keepL b (Nat.le_refl _) _ _ h.2.1, cells_keepL b (Nat.le_refl _) _ _ h.2.2.1, cells_keepL b (Nat.le_refl _) _ _ h.2.2.2.1, h.2.2.2.2.trans (b.mono (Nat.le_trans hK h.2.2.2.2.size))⟩
set_option maxHeartbeats 8000000 in
theorem relements_any (a : StA) (S : StM) (w : World) (hS : SS w a S) (hok : S.ok) (hf : formB S.pl = true) (h64 : ∀ g ∈ S.G, g.1.size ≤ 64) :
  Calls Tryz.prog 96 #[.agg #[.slice a.ga S.G.length a.gc, .slice a.va S.V.length a.vc, .slice a.qa S.Q.length a.qc]] w fun e w' => e = .returned (.bool (elB S.pl)) ∧ Below w.heap.size w w' := by
 have HF : Hid (∀ q ∈ S.Q, ∃ j : Nat, q.1 = (j : Int) ∧ j < S.G.length ∧ grpS S.pl (eqp q) = S.G.getD j (⟨#[]⟩, ⟨#[]⟩)) := fun q hq => by
  obtain ⟨h1, h2, _⟩ := form_q hf (q := eqp q) (by rw [StM.pl_Q]; exact List.mem_map_of_mem hq)
  exact ⟨q.1.toNat, by have : 0 ≤ q.1 := h1; omega, h2, rfl⟩
 rw [elB_pl]
 obtain ⟨EQ, hEQ⟩ : ∃ E, (fun q => elQ S.pl (eqp q)) = E := ⟨_, rfl⟩
 have HE : Hid (∀ q, EQ q = (hasB (grpS S.pl (eqp q)).1 (grpS S.pl (eqp q)).2 q.2.1 && q.2.2.2.2.all (elT (grpS S.pl (eqp q))))) := fun q => by rw [← hEQ]; rfl
 obtain ⟨GS, hGS⟩ : ∃ E, (fun q => grpS S.pl (eqp q)) = E := ⟨_, rfl⟩
 have hgs : ∀ q, grpS S.pl (eqp q) = GS q := fun q => by rw [← hGS]
 simp only [hgs] at HE HF
 rw [hEQ]
 clear hEQ hGS hgs hf
 have hb := (Below.refl _ w).alloc (Nat.le_refl _) (.cells #[.slice a.ga S.G.length a.gc, .slice a.va S.V.length a.vc, .slice a.qa S.Q.length a.qc] 49)
 have hX := SXB.new w a S
 have hS0 := hS.below hb (Nat.le_refl _)
 have H64 := Lib.hid h64
 obtain ⟨ga, gc, va, vc, qa, qc⟩ := a
 obtain ⟨G, W, Q⟩ := S
 simp only at hb hX hS0 HF HE H64 ⊢
 have HG := Lib.hid hS0.g
 have HQ := Lib.hid hS0.q
 have hX0 := hX.c0
 have hX2 := hX.c2
 have l1 : G.length ≤ maxLen := hok.gl
 have l3 : Q.length ≤ maxLen := hok.ql
 have l4 : Hid (∀ q ∈ Q, q.2.2.2.2.length ≤ maxLen) := fun q hq => (hok.q q hq).2.2.1
 simp only at HG HQ hX0 hX2
 unfold maxLen at l1 l3 l4
 clear hS hS0 hok h64
 obtain ⟨ng, hng⟩ : ∃ n, G.length = n := ⟨_, rfl⟩
 obtain ⟨mq, hnq⟩ : ∃ n, Q.length = n := ⟨_, rfl⟩
 simp only [hng, hnq] at hb hX0 hX2 l1 l3 HG HQ HF ⊢
 have HNG := Lib.hid hng
 have HNQ := Lib.hid hnq
 obtain ⟨R1, hR1⟩ : ∃ R, Q.all EQ = R := ⟨_, rfl⟩
 rw [hR1]
 obtain ⟨V, hV⟩ : ∃ V, (G.all ckG && R1) = V := ⟨_, rfl⟩
 rw [hV]
 have H0 : Hid (((G.drop 0).all ckG && R1) = V) := hV
 have H1 : Hid ((Q.drop 0).all EQ = R1) := hR1
 clear hng hnq hR1 hV hX
 go_enter Tryz.func96, Tryz.ntmps96
 go_wp2_with fail
 generalize World.alloc _ _ = w0 at hb hX0 hX2 HG HQ ⊢
 go_wp2_with fail
 go_loopw [3] (fun v3 wr => ∃ k : Nat, k ≤ ng ∧ v3 = .int .i64 (k : Int) ∧ Hid (((G.drop k).all ckG && R1) = V) ∧ Below w0.heap.size w0 wr) (fun v3 _ => ng - (intOf v3).toNat)
 case atStart => exact ⟨0, by omega, rfl, H0, Below.refl _ _⟩
 case round =>
  clear H0
  obtain ⟨k, hk, rfl, hP, hB⟩ := hrel
  have hbw := hb.trans (hB.mono hb.size)
  have d0 := cells_keepL hB (Nat.le_refl _) _ _ hX0
  have d2 := cells_keepL hB (Nat.le_refl _) _ _ hX2
  by_cases hlt : k < ng
  ·
   have hkG : k < G.length := by rw [HNG.out]; exact hlt
   obtain ⟨b, off, rfl, e0, e1⟩ := (HG.out.keep (cells_keepL hB (Nat.le_refl _))) k hkG
   have hw := hP.out
   rw [List.drop_eq_getElem_cons hkG, List.all_cons] at hw
   generalize G[k] = x at e0 e1 hw
   obtain ⟨M, O⟩ := x
   simp only [ckG] at e0 e1 hw
   have HC := fun w => r13Check_any M O w
   clear hP hkG
   obtain ⟨E, hE⟩ : ∃ E, gE M O = E := ⟨_, rfl⟩
   simp only [hE] at hw HC
   clear hE
   by_cases hE0 : E = 0
   ·
    subst hE0
    rw [decide_eq_true rfl, Bool.true_and] at hw
    have HW := Lib.hid hw
    have HC := Lib.hid HC
    clear hw
    go_wp2_with fail
    refine (HC.out _).mono ?_; rintro e w1 ⟨rfl, b1⟩
    have hB3 := hB.trans (b1.mono hB.size)
    go_wp2_with fail
    exact ⟨⟨k + 1, by omega, by go_num, HW, hB3⟩, by simp [intOf]; omega⟩
   ·
    rw [decide_eq_false hE0] at hw
    obtain rfl : V = false := by rw [← hw]; rfl
    have hE1 : (E == 0) = false := by rw [beq_eq_false_iff_ne]; exact hE0
    have hE2 : (E != 0) = true := by rw [bne_iff_ne]; exact hE0
    have HC := Lib.hid HC
    clear hw
    go_wp2_with fail
    refine (HC.out _).mono ?_; rintro e w1 ⟨rfl, b1⟩
    have hbf := hbw.trans (b1.mono hbw.size)
    go_wp2_with fail
    go_ret
    exact ⟨rfl, hbf⟩
  ·
   obtain rfl : ng = k := by omega
   have hw := hP.out
   rw [List.drop_of_length_le (by rw [HNG.out]; omega)] at hw
   obtain rfl : R1 = V := hw
   have HQ2 := Lib.hid (HQ.out.keep (cells_keepL hB (Nat.le_refl _)))
   have HG2 := Lib.hid (HG.out.keep (cells_keepL hB (Nat.le_refl _)))
   clear hP hX0 hX2 HQ hb hB HG
   go_wp2_with fail
   obtain ⟨wo1, rfl⟩ : ∃ wo : World, wo = wr := ⟨_, rfl⟩
   go_loopw [4] (fun v4 wq => ∃ k : Nat, k ≤ mq ∧ v4 = .int .i64 (k : Int) ∧ Hid ((Q.drop k).all EQ = R1) ∧ Below wo1.heap.size wo1 wq) (fun v4 _ => mq - (intOf v4).toNat)
   case atStart => exact ⟨0, by omega, rfl, H1, Below.refl _ _⟩
   case round =>
    clear H1
    obtain ⟨h, hh, rfl, hP, hB⟩ := hrel
    have hbe := hbw.trans (hB.mono hbw.size)
    have x0 := cells_keepL hB (Nat.le_refl _) _ _ d0
    have x2 := cells_keepL hB (Nat.le_refl _) _ _ d2
    by_cases hlt : h < mq
    ·
     have hkQ : h < Q.length := by rw [HNQ.out]; exact hlt
     have hlx := l4.out _ (List.getElem_mem hkQ)
     obtain ⟨j, hj1, hj2, hj3⟩ := HF.out _ (List.getElem_mem hkQ)
     obtain ⟨b, off, rfl, e0, e1, e2, hT⟩ := (HQ2.out.keep (cells_keepL hB (Nat.le_refl _))) h hkQ
     have hw := hP.out
     rw [List.drop_eq_getElem_cons hkQ, List.all_cons, HE.out, hj3] at hw
     clear hj3
     generalize Q[h] = x at e0 e1 e2 hT hlx hw hj1
     obtain ⟨i, T, ta, tc, L⟩ := x
     simp only at e0 e1 e2 hT hlx hw hj1
     subst hj1
     have hjG : j < G.length := by rw [HNG.out]; exact hj2
     have hm64 := H64.out _ (List.getElem_mem hjG)
     obtain ⟨b2, off2, rfl, f0, f1⟩ := (HG2.out.keep (cells_keepL hB (Nat.le_refl _))) j hjG
     rw [grp_at hjG] at hw
     generalize G[j] = x at f0 f1 hw hm64
     obtain ⟨M, O⟩ := x
     simp only at f0 f1 hw hm64
     have HHS := Lib.hid (fun s w => r13Has_any M O s w hm64)
     obtain ⟨nt, hnt⟩ : ∃ n, L.length = n := ⟨_, rfl⟩
     rw [hnt] at e2 hlx
     have HNT := Lib.hid hnt
     have hbN := (Below.refl _ wr).alloc (Nat.le_refl _) (.cells #[.int .i64 (j : Int), .string T, .slice ta nt tc] 46)
     have hN := QB.new wr (j : Int) T (.slice ta nt tc)
     have hbf := hbe.trans (hbN.mono hbe.size)
     have hB2 := hB.trans (hbN.mono hB.size)
     have n0 := hN.c0
     have y0 := cells_keepL hbN (Nat.le_refl _) _ _ x0
     have f0 := cells_keepL hbN (Nat.le_refl _) _ _ f0
     have f1 := cells_keepL hbN (Nat.le_refl _) _ _ f1
     have HT := Lib.hid (hT.keep (cells_keepL hbN (Nat.le_refl _)))
     clear hP hkQ hB hbe hT x0 hnt hjG d0 hm64
     go_wp2_with fail
     have hz : (wr.alloc (.cells #[.int .i64 (j : Int), .string T, .slice ta nt tc] 46)).heap.size = wr.heap.size + 1 := by simp
     generalize hw3 : World.alloc wr _ = w3 at hbN hN hbf hB2 n0 y0 f0 f1 HT hz ⊢
     clear hw3
     go_wp2_with fail
     have hG := GB.new w3 M O
     have hbM := (Below.refl _ w3).alloc (Nat.le_refl _) (.cells #[.string M, .string O] 27)
     have hN4 := hN.below hbM hN.lt
     have hbg := hbf.trans (hbM.mono hbf.size)
     have hB3 := hB2.trans (hbM.mono hB2.size)
     have g0 := hG.c0
     have g1 := hG.c1
     have n1 := hN4.c1
     have n2 := hN4.c2
     have HT4 := Lib.hid (HT.out.keep (cells_keepL hbM (Nat.le_refl _)))
     clear hN HT hbf hB2 hbN n0 y0 f0 f1
     rw [hz] at hG hbM g0 g1
     generalize hw4 : World.alloc w3 _ = w4 at hG hbM hN4 hbg hB3 g0 g1 n1 n2 HT4 ⊢
     clear hw4 hbM hz
     cases hH : hasB M O T
     ·
      rw [hH] at hw
      obtain rfl : R1 = false := by rw [← hw]; rfl
      have HH := Lib.hid hH
      clear hH hw
      go_wp2_with fail
      refine (HHS.out T _).mono ?_; rw [HH.out]; rintro e w5 ⟨rfl, b5⟩
      have hbh := hbg.trans (b5.mono hbg.size)
      go_wp2_with fail
      go_ret
      exact ⟨rfl, hbh⟩
     ·
      rw [hH, Bool.true_and] at hw
      have HH := Lib.hid hH
      obtain ⟨R3, hR3⟩ : ∃ R, (Q.drop (h + 1)).all EQ = R := ⟨_, rfl⟩
      rw [hR3] at hw
      have HR3 := Lib.hid hR3
      have H3 : Hid (((L.drop 0).all (elT (M, O)) && R3) = R1) := hw
      clear hH hw hR3
      go_wp2_with fail
      refine (HHS.out T _).mono ?_; rw [HH.out]; rintro e w5 ⟨rfl, b5⟩
      have hbh := hbg.trans (b5.mono hbg.size)
      have hB4 := hB3.trans (b5.mono hB3.size)
      have hG5 := hG.below b5 hG.lt
      have hN5 := hN4.below b5 hN4.lt
      have HT5 := Lib.hid (HT4.out.keep (cells_keepL b5 (Nat.le_refl _)))
      clear hG hN4 hbg hB3 HT4 b5 g0 g1 n1 n2 HH
      go_wp2_with fail
      generalize hp5 : wr.heap.size = p5 at hG5 hN5 ⊢
      go_loopw [7] (fun v7 wt => ∃ i : Nat, i ≤ nt ∧ v7 = .int .i64 (i : Int) ∧ Hid (((L.drop i).all (elT (M, O)) && R3) = R1) ∧ Below w5.heap.size w5 wt) (fun v7 _ => nt - (intOf v7).toNat)
      case atStart => exact ⟨0, by omega, rfl, H3, Below.refl _ _⟩
      case round =>
       clear H3
       obtain ⟨i, hi, rfl, hP, hB⟩ := hrel
       have hbi := hbh.trans (hB.mono hbh.size)
       have hG6 := hG5.below hB hG5.lt
       have hN6 := hN5.below hB hN5.lt
       have g0 := hG6.c0
       have g1 := hG6.c1
       have n2 := hN6.c2
       by_cases hlj : i < nt
       ·
        have hjL : i < L.length := by rw [HNT.out]; exact hlj
        obtain ⟨b, off, rfl, e5, e6, e7, e8⟩ := (HT5.out.keep (cells_keepL hB (Nat.le_refl _))) i hjL
        have hw := hP.out
        rw [List.drop_eq_getElem_cons hjL, List.all_cons] at hw
        generalize L[i] = x at e5 e6 e7 e8 hw
        obtain ⟨s, u, g, E⟩ := x
        simp only [elT] at e5 e6 e7 e8 hw
        have HS := fun w => HHS.out s w
        obtain ⟨B, hBs⟩ : ∃ B, hasB M O s = B := ⟨_, rfl⟩
        simp only [hBs] at hw HS
        have HS := Lib.hid HS
        clear hP hjL hBs hG6 hN6 e6 e7 e8
        go_wp2_with fail
        go_region_held3 (fun w' => w'.cell? ⟨p5 + 1, 0, none⟩ = some (.string M) ∧ w'.cell? ⟨p5 + 1, 1, none⟩ = some (.string O) ∧ w'.cell? ⟨p5, 2, none⟩ = some (.slice (some ⟨b, off, none⟩) nt tc) ∧ w'.cell? ⟨b, off + i * 4, none⟩ = some (.string s) ∧ Below wr.heap.size wr w')
         (first | exact ⟨g0, g1, n2, e5, (Below.refl _ wr).drew⟩ | assumption | (refine keep5L ?_ (Nat.le_refl _) bn; assumption))
         ((go_at_call 139; (with_reducible refine (HS.out _).mono ?_); rintro e wn ⟨rfl, bn⟩; have hbn : Below wr.heap.size wr wn := (Below.refl _ wr).drew.trans (bn.mono (Nat.le_refl _))))
        all_goals
         have hbj := hbi.trans (hbn.mono hbi.size)
         have hB6 := hB.trans (hbn.mono hB.size)
         cases B
         ·
          obtain rfl : R1 = false := by rw [← hw]; rfl
          clear hw
          go_wp2_with fail
          go_ret
          exact ⟨rfl, hbj⟩
         ·
          have HW : Hid (((L.drop (i + 1)).all (elT (M, O)) && R3) = R1) := hw
          clear hw
          go_wp2_with fail
          exact ⟨⟨i + 1, by omega, by go_num, HW, hB6⟩, by simp [intOf]; omega⟩
       ·
        obtain rfl : nt = i := by omega
        have hw := hP.out
        rw [List.drop_of_length_le (by rw [HNT.out]; omega)] at hw
        have hR : R3 = R1 := hw
        have hz : Hid ((Q.drop (h + 1)).all EQ = R1) := by rw [← hR]; exact HR3
        have hB5 := hB4.trans (hB.mono hB4.size)
        clear hP hR
        go_wp2_with fail
        exact ⟨⟨h + 1, by omega, by go_num, hz, hB5⟩, by simp [intOf]; omega⟩
    ·
     obtain rfl : mq = h := by omega
     have hw := hP.out
     rw [List.drop_of_length_le (by rw [HNQ.out]; omega)] at hw
     obtain rfl : true = R1 := hw
     clear hP
     go_wp2_with fail
     go_ret
     exact ⟨rfl, hbe⟩
theorem tyQ_all (S : StP) (q : EqP) : tyQ S q = q.2.2.all (fun t => tyT S t || !emB (grpS S q).2) := by
 unfold tyQ
 cases emB (grpS S q).2
 ·
  simp
 ·
  simp
set_option maxHeartbeats 8000000 in
theorem rtyped_any (a : StA) (S : StM) (w : World) (hS : SS w a S) (hok : S.ok) (hf : formB S.pl = true) :
  Calls Tryz.prog 97 #[.agg #[.slice a.ga S.G.length a.gc, .slice a.va S.V.length a.vc, .slice a.qa S.Q.length a.qc]] w fun e w' => e = .returned (.bool (typB S.pl)) ∧ Below w.heap.size w w' := by
 have HF : Hid (∀ q ∈ S.Q, ∃ j : Nat, q.1 = (j : Int) ∧ j < S.G.length ∧ grpS S.pl (eqp q) = S.G.getD j (⟨#[]⟩, ⟨#[]⟩)) := fun q hq => by
  obtain ⟨h1, h2, _⟩ := form_q hf (q := eqp q) (by rw [StM.pl_Q]; exact List.mem_map_of_mem hq)
  exact ⟨q.1.toNat, by have : 0 ≤ q.1 := h1; omega, h2, rfl⟩
 have HT : Hid (∀ q ∈ S.Q, ∀ t ∈ q.2.2.2.2, ∃ j : Nat, t.2.1 = (j : Int) ∧ j < S.V.length ∧ tyT S.pl t = !emB (S.V.getD j ⟨#[]⟩)) := fun q hq t ht => by
  obtain ⟨_, _, _, h4⟩ := form_q hf (q := eqp q) (by rw [StM.pl_Q]; exact List.mem_map_of_mem hq)
  obtain ⟨g1, g2, _⟩ := h4 t ht
  exact ⟨t.2.1.toNat, by omega, g2, rfl⟩
 rw [typB_pl]
 obtain ⟨EQ, hEQ⟩ : ∃ E, (fun q => tyQ S.pl (eqp q)) = E := ⟨_, rfl⟩
 have HE : Hid (∀ q, EQ q = q.2.2.2.2.all (fun t => tyT S.pl t || !emB (grpS S.pl (eqp q)).2)) := fun q => by rw [← hEQ]; exact tyQ_all _ _
 obtain ⟨TT, hTT⟩ : ∃ E, tyT S.pl = E := ⟨_, rfl⟩
 obtain ⟨GS, hGS⟩ : ∃ E, (fun q => grpS S.pl (eqp q)) = E := ⟨_, rfl⟩
 have hgs : ∀ q, grpS S.pl (eqp q) = GS q := fun q => by rw [← hGS]
 simp only [hgs, hTT] at HE HF HT
 rw [hEQ]
 clear hEQ hGS hgs hf hTT
 have hb := (Below.refl _ w).alloc (Nat.le_refl _) (.cells #[.slice a.ga S.G.length a.gc, .slice a.va S.V.length a.vc, .slice a.qa S.Q.length a.qc] 49)
 have hX := SXB.new w a S
 have hS0 := hS.below hb (Nat.le_refl _)
 have HO := Lib.hid (fun w' (hb' : Below (w.alloc (.cells #[.slice a.ga S.G.length a.gc, .slice a.va S.V.length a.vc, .slice a.qa S.Q.length a.qc] 49)).heap.size (w.alloc (.cells #[.slice a.ga S.G.length a.gc, .slice a.va S.V.length a.vc, .slice a.qa S.Q.length a.qc] 49)) w') => rorder_any a S w' (hS0.below hb' (Nat.le_refl _)) hok)
 have HG := Lib.hid hS0.g
 have HV := Lib.hid hS0.v
 have HQ := Lib.hid hS0.q
 have hX0 := hX.c0
 have hX1 := hX.c1
 have hX2 := hX.c2
 have l1 : S.G.length ≤ maxLen := hok.gl
 have l2 : S.V.length ≤ maxLen := hok.vl
 have l3 : S.Q.length ≤ maxLen := hok.ql
 have l4 : Hid (∀ q ∈ S.Q, q.2.2.2.2.length ≤ maxLen) := fun q hq => (hok.q q hq).2.2.1
 clear hS hS0 hok hX
 obtain ⟨ga, gc, va, vc, qa, qc⟩ := a
 obtain ⟨G, W, Q⟩ := S
 simp only at hb HF HT HO HG HV HQ hX0 hX1 hX2 l1 l2 l3 l4 ⊢
 obtain ⟨ng, hng⟩ : ∃ n, G.length = n := ⟨_, rfl⟩
 obtain ⟨nw, hnv⟩ : ∃ n, W.length = n := ⟨_, rfl⟩
 obtain ⟨mq, hnq⟩ : ∃ n, Q.length = n := ⟨_, rfl⟩
 simp only [hng, hnv, hnq] at hb hX0 hX1 hX2 l1 l2 l3 HG HV HQ HF HT HO ⊢
 have HNG := Lib.hid hng
 have HNV := Lib.hid hnv
 have HNQ := Lib.hid hnq
 obtain ⟨o, ho⟩ : ∃ o, ordL G = o := ⟨_, rfl⟩
 rw [ho] at HO ⊢
 clear hng hnv hnq ho
 unfold maxLen at l1 l2 l3 l4
 obtain ⟨R2, hR2⟩ : ∃ R, Q.all EQ = R := ⟨_, rfl⟩
 obtain ⟨R1, hR1⟩ : ∃ R, (G.all (tyG o) && R2) = R := ⟨_, rfl⟩
 rw [hR2, hR1]
 obtain ⟨V, hVV⟩ : ∃ V, (!W.any emB || !emB o && R1) = V := ⟨_, rfl⟩
 rw [hVV]
 have HVV := Lib.hid hVV
 have H1 : Hid (((G.drop 0).all (tyG o) && R2) = R1) := hR1
 have H2 : Hid ((Q.drop 0).all EQ = R2) := hR2
 have hany : ∀ k, k < W.length → ((W.take (k + 1)).any emB) = ((W.take k).any emB || emB (W.getD k ⟨#[]⟩)) := fun k hk => by
  rw [List.take_succ_eq_append_getElem hk, List.any_append, var_at hk]; simp
 have HAN := Lib.hid hany
 clear hR2 hR1 hVV hany
 go_enter Tryz.func97, Tryz.ntmps97
 go_wp2_with fail
 generalize hw0 : World.alloc _ _ = w0 at hb hX0 hX1 hX2 HG HV HQ HO ⊢
 clear hw0
 go_wp2_with fail
 go_loopw [3, 4] (fun v3 v4 wr => ∃ k : Nat, k ≤ nw ∧ v4 = .int .i64 (k : Int) ∧ v3 = .bool ((W.take k).any emB) ∧ wr = w0) (fun _ v4 _ => nw - (intOf v4).toNat)
 case atStart => exact ⟨0, by omega, rfl, rfl, rfl⟩
 case round =>
  obtain ⟨k, hk, rfl, rfl, rfl⟩ := hrel
  by_cases hlt : k < nw
  ·
   have hkW : k < W.length := by rw [HNV.out]; exact hlt
   obtain ⟨b, off, rfl, e0⟩ := HV.out k hkW
   have hA := HAN.out k hkW
   rw [var_at hkW] at hA
   generalize W[k] = x at e0 hA
   clear hkW
   cases hfl : (W.take k).any emB
   ·
    rw [hfl, Bool.false_or] at hA
    clear hfl
    rcases em_cases x with ⟨h1, rfl⟩ | ⟨h1, h2, h3⟩
    ·
     rw [h1] at hA
     have HA := Lib.hid hA
     clear h1 hA
     go_wp2_with fail
     exact ⟨⟨k + 1, by omega, by go_num, by rw [HA.out], by trivial⟩, by simp [intOf]; omega⟩
    ·
     rw [h1] at hA
     have HA := Lib.hid hA
     clear h1 hA
     go_wp2_with fail
     exact ⟨⟨k + 1, by omega, by go_num, by rw [HA.out], by trivial⟩, by simp [intOf]; omega⟩
   ·
    rw [hfl, Bool.true_or] at hA
    have HA := Lib.hid hA
    clear hfl hA
    go_wp2_with fail
    exact ⟨⟨k + 1, by omega, by go_num, by rw [HA.out], by trivial⟩, by simp [intOf]; omega⟩
  ·
   obtain rfl : nw = k := by omega
   rw [List.take_of_length_le (by rw [HNV.out]; omega)]
   have hVV := HVV.out
   clear HAN HVV
   cases hany : W.any emB
   ·
    rw [hany] at hVV
    obtain rfl : true = V := hVV
    clear hany
    go_wp2_with fail
    go_ret
    exact ⟨rfl, hb⟩
   rw [hany] at hVV
   clear hany
   go_wp2_with fail
   refine (HO.out _ (Below.refl _ _)).mono ?_; rintro e w2 ⟨rfl, b2⟩
   have hb2 := hb.trans (b2.mono hb.size)
   have y0 := cells_keepL b2 (Nat.le_refl _) _ _ hX0
   have y1 := cells_keepL b2 (Nat.le_refl _) _ _ hX1
   have y2 := cells_keepL b2 (Nat.le_refl _) _ _ hX2
   have HG2 := Lib.hid (HG.out.keep (cells_keepL b2 (Nat.le_refl _)))
   have HV2 := Lib.hid (HV.out.keepL (cells_keepL b2 (Nat.le_refl _)))
   have HQ2 := Lib.hid (HQ.out.keep (cells_keepL b2 (Nat.le_refl _)))
   clear hX0 hX1 hX2 HG HV HQ HO b2 hb
   rcases em_cases o with ⟨h1, rfl⟩ | ⟨h1, h2, h3⟩
   ·
    obtain rfl : V = false := by rw [← hVV, h1]; rfl
    clear h1 hVV
    go_wp2_with fail
    go_ret
    exact ⟨rfl, hb2⟩
   rw [h1] at hVV
   obtain rfl : R1 = V := hVV
   clear h1
   go_wp2_with fail
   obtain ⟨wo1, rfl⟩ : ∃ wo : World, wo = w2 := ⟨_, rfl⟩
   go_loopw [6] (fun v6 wr => ∃ k : Nat, k ≤ ng ∧ v6 = .int .i64 (k : Int) ∧ Hid (((G.drop k).all (tyG o) && R2) = R1) ∧ wr = wo1) (fun v6 _ => ng - (intOf v6).toNat)
   case atStart => exact ⟨0, by omega, rfl, H1, rfl⟩
   case round =>
    clear H1
    obtain ⟨k, hk, rfl, hP, rfl⟩ := hrel
    by_cases hlt : k < ng
    ·
     have hkG : k < G.length := by rw [HNG.out]; exact hlt
     obtain ⟨b, off, rfl, e0, e1⟩ := HG2.out k hkG
     have hw := hP.out
     rw [List.drop_eq_getElem_cons hkG, List.all_cons] at hw
     generalize G[k] = x at e0 e1 hw
     obtain ⟨M, O⟩ := x
     simp only [tyG] at e0 e1 hw
     clear hP hkG
     rcases em_cases O with ⟨k1, rfl⟩ | ⟨k1, k2, k3⟩
     ·
      rw [k1, Bool.true_or, Bool.true_and] at hw
      have HW := Lib.hid hw
      clear hw k1
      go_wp2_with fail
      exact ⟨⟨k + 1, by omega, by go_num, HW, by trivial⟩, by simp [intOf]; omega⟩
     ·
      rw [k1, Bool.false_or] at hw
      clear k1
      by_cases he : O = o
      ·
       subst he
       rw [beq_self_eq_true, Bool.true_and] at hw
       have HW := Lib.hid hw
       clear hw
       go_wp2_with fail
       exact ⟨⟨k + 1, by omega, by go_num, HW, by trivial⟩, by simp [intOf]; omega⟩
      ·
       have q2 : ¬ O.toList = o.toList := fun h => he (tl_eq h)
       have q1 : (O.toList == o.toList) = false := by rw [beq_eq_false_iff_ne]; exact q2
       obtain rfl : R1 = false := by rw [q1] at hw; exact hw.symm
       clear hw
       go_wp2_with fail
       go_ret
       exact ⟨rfl, hb2⟩
    ·
     obtain rfl : ng = k := by omega
     have hw := hP.out
     rw [List.drop_of_length_le (by rw [HNG.out]; omega)] at hw
     obtain rfl : R2 = R1 := hw
     clear hP h2 h3
     go_wp2_with fail
     obtain ⟨wo2, rfl⟩ : ∃ wo : World, wo = wr := ⟨_, rfl⟩
     go_loopw [7] (fun v7 wq => ∃ k : Nat, k ≤ mq ∧ v7 = .int .i64 (k : Int) ∧ Hid ((Q.drop k).all EQ = R2) ∧ Below wo2.heap.size wo2 wq) (fun v7 _ => mq - (intOf v7).toNat)
     case atStart => exact ⟨0, by omega, rfl, H2, Below.refl _ _⟩
     case round =>
      clear H2
      obtain ⟨h, hh, rfl, hP, hB⟩ := hrel
      have hbw := hb2.trans (hB.mono hb2.size)
      have x0 := cells_keepL hB (Nat.le_refl _) _ _ y0
      have x1 := cells_keepL hB (Nat.le_refl _) _ _ y1
      have x2 := cells_keepL hB (Nat.le_refl _) _ _ y2
      by_cases hlt : h < mq
      ·
       have hkQ : h < Q.length := by rw [HNQ.out]; exact hlt
       have hlx := l4.out _ (List.getElem_mem hkQ)
       have HTx := Lib.hid (HT.out _ (List.getElem_mem hkQ))
       obtain ⟨j, hj1, hj2, hj3⟩ := HF.out _ (List.getElem_mem hkQ)
       obtain ⟨b, off, rfl, e0, e1, e2, hT⟩ := (HQ2.out.keep (cells_keepL hB (Nat.le_refl _))) h hkQ
       have hw := hP.out
       rw [List.drop_eq_getElem_cons hkQ, List.all_cons, HE.out, hj3] at hw
       clear hj3
       generalize Q[h] = x at e0 e1 e2 hT hlx hw hj1 HTx
       obtain ⟨i, T, ta, tc, L⟩ := x
       simp only at e0 e1 e2 hT hlx hw hj1 HTx
       subst hj1
       have hjG : j < G.length := by rw [HNG.out]; exact hj2
       obtain ⟨b2, off2, rfl, f0, f1⟩ := (HG2.out.keep (cells_keepL hB (Nat.le_refl _))) j hjG
       rw [grp_at hjG] at hw
       generalize G[j] = x at f0 f1 hw
       obtain ⟨M, O⟩ := x
       simp only at f0 f1 hw
       obtain ⟨nt, hnt⟩ : ∃ n, L.length = n := ⟨_, rfl⟩
       rw [hnt] at e2 hlx
       have HNT := Lib.hid hnt
       have hbN := (Below.refl _ wr).alloc (Nat.le_refl _) (.cells #[.int .i64 (j : Int), .string T, .slice ta nt tc] 46)
       have hN := QB.new wr (j : Int) T (.slice ta nt tc)
       have hbf := hbw.trans (hbN.mono hbw.size)
       have hB2 := hB.trans (hbN.mono hB.size)
       have n0 := hN.c0
       have n2 := hN.c2
       have z0 := cells_keepL hbN (Nat.le_refl _) _ _ x0
       have z1 := cells_keepL hbN (Nat.le_refl _) _ _ x1
       have f1 := cells_keepL hbN (Nat.le_refl _) _ _ f1
       have HTT := Lib.hid (hT.keep (cells_keepL hbN (Nat.le_refl _)))
       have HV3 := Lib.hid (HV2.out.keepL (cells_keepL hB2 (Nat.le_refl _)))
       obtain ⟨R3, hR3⟩ : ∃ R, (Q.drop (h + 1)).all EQ = R := ⟨_, rfl⟩
       rw [hR3] at hw
       have HR3 := Lib.hid hR3
       obtain ⟨eO, heO⟩ : ∃ e, emB O = e := ⟨_, rfl⟩
       rw [heO] at hw
       have HEO := Lib.hid heO
       have H3 : Hid (((L.drop 0).all (fun t => TT t || !eO) && R3) = R2) := hw
       clear hP hkQ hB hbw hT x0 x1 hnt hjG f0 hw hR3 heO
       go_wp2_with fail
       clear e0 e1 e2
       generalize hp8 : wr.heap.size = p8 at hN n0 n2 ⊢
       generalize hw5 : World.alloc wr _ = w5 at hbN hN hbf hB2 n0 n2 z0 z1 f1 HTT HV3 ⊢
       clear hw5 hp8
       go_loopw [9] (fun v9 wt => ∃ i : Nat, i ≤ nt ∧ v9 = .int .i64 (i : Int) ∧ Hid (((L.drop i).all (fun t => TT t || !eO) && R3) = R2) ∧ Below w5.heap.size w5 wt) (fun v9 _ => nt - (intOf v9).toNat)
       case atStart => exact ⟨0, by omega, rfl, H3, Below.refl _ _⟩
       case round =>
        clear H3
        obtain ⟨i, hi, rfl, hP, hBd⟩ := hrel
        by_cases hlj : i < nt
        ·
         have hjL : i < L.length := by rw [HNT.out]; exact hlj
         obtain ⟨c, hc1, hc2, hc3⟩ := HTx.out _ (List.getElem_mem hjL)
         obtain ⟨b3, off3, rfl, e5, e6, e7, e8⟩ := (HTT.out.keep (cells_keepL hBd (Nat.le_refl _))) i hjL
         have hcW : c < W.length := by rw [HNV.out]; exact hc2
         obtain ⟨b4, off4, rfl, v0⟩ := (HV3.out.keepL (cells_keepL hBd (Nat.le_refl _))) c hcW
         have hw := hP.out
         rw [List.drop_eq_getElem_cons hjL, List.all_cons, hc3, var_at hcW] at hw
         clear hc3
         generalize W[c] = x at v0 hw
         generalize L[i] = y at e5 e6 e7 e8 hc1
         obtain ⟨s, u, g, E⟩ := y
         simp only at e5 e6 e7 e8 hc1
         subst hc1
         have n0' := cells_keepL hBd (Nat.le_refl _) _ _ n0
         have n2' := cells_keepL hBd (Nat.le_refl _) _ _ n2
         have z0' := cells_keepL hBd (Nat.le_refl _) _ _ z0
         have z1' := cells_keepL hBd (Nat.le_refl _) _ _ z1
         have f1' := cells_keepL hBd (Nat.le_refl _) _ _ f1
         have HBB := Lib.hid (And.intro (hbf.trans (hBd.mono hbf.size)) hBd)
         clear hP hjL hcW n0 n2 z0 z1 f1 hBd hbf hB2 hbN e5 e7 e8 hN y0 y1 y2 x2
         rcases em_cases x with ⟨k1, rfl⟩ | ⟨k1, k2, k3⟩
         ·
          rw [k1] at hw
          clear k1
          rcases em_cases O with ⟨o1, rfl⟩ | ⟨o1, o2, o3⟩
          ·
           obtain rfl : eO = true := HEO.out.symm.trans o1
           obtain rfl : R2 = false := hw.symm
           clear hw o1
           go_wp2_with fail
           go_quiet (fail)
           have hbq : Below w.heap.size w (wr.drewN nq) := HBB.out.1.trans ((Below.drewNL _ _ _).mono HBB.out.1.size)
           generalize World.drewN _ _ = w7 at hbq ⊢
           go_wp2_with fail
           go_ret
           exact ⟨rfl, hbq⟩
          ·
           obtain rfl : eO = false := HEO.out.symm.trans o1
           have HW : Hid (((L.drop (i + 1)).all (fun t => TT t || !false) && R3) = R2) := hw
           clear hw o1
           go_wp2_with fail
           go_quiet (fail)
           have hBq : Below w5.heap.size w5 (wr.drewN nq) := HBB.out.2.trans ((Below.drewNL _ _ _).mono HBB.out.2.size)
           generalize World.drewN _ _ = w7 at hBq ⊢
           go_wp2_with fail
           exact ⟨⟨i + 1, by omega, by go_num, HW, hBq⟩, by simp [intOf]; omega⟩
         ·
          rw [k1] at hw
          have HW : Hid (((L.drop (i + 1)).all (fun t => TT t || !eO) && R3) = R2) := hw
          clear hw k1
          go_wp2_with fail
          go_quiet (fail)
          have hBq : Below w5.heap.size w5 (wr.drewN nq) := HBB.out.2.trans ((Below.drewNL _ _ _).mono HBB.out.2.size)
          generalize World.drewN _ _ = w7 at hBq ⊢
          go_wp2_with fail
          exact ⟨⟨i + 1, by omega, by go_num, HW, hBq⟩, by simp [intOf]; omega⟩
        ·
         obtain rfl : nt = i := by omega
         have hw := hP.out
         rw [List.drop_of_length_le (by rw [HNT.out]; omega)] at hw
         have hR : R3 = R2 := hw
         have hz : Hid ((Q.drop (h + 1)).all EQ = R2) := by rw [← hR]; exact HR3
         have hB5 := hB2.trans (hBd.mono hB2.size)
         have n2' := cells_keepL hBd (Nat.le_refl _) _ _ n2
         clear hP hR n2 n0 z0 z1 f1
         go_wp2_with fail
         exact ⟨⟨h + 1, by omega, by go_num, hz, hB5⟩, by simp [intOf]; omega⟩
      ·
       obtain rfl : mq = h := by omega
       have hw := hP.out
       rw [List.drop_of_length_le (by rw [HNQ.out]; omega)] at hw
       obtain rfl : true = R2 := hw
       clear hP
       go_wp2_with fail
       go_ret
       exact ⟨rfl, hbw⟩
set_option maxHeartbeats 4000000 in
theorem rrest_any (a : StA) (S : StM) (w : World) (hS : SS w a S) (hok : S.ok) (hf : formB S.pl = true) (h64 : ∀ g ∈ S.G, g.1.size ≤ 64) :
  Calls Tryz.prog 46 #[.agg #[.slice a.ga S.G.length a.gc, .slice a.va S.V.length a.vc, .slice a.qa S.Q.length a.qc]] w fun e w' => e = .returned (.int .i64 (rstE S.pl)) ∧ Below w.heap.size w w' := by
 have hb := (Below.refl _ w).alloc (Nat.le_refl _) (.cells #[.slice a.ga S.G.length a.gc, .slice a.va S.V.length a.vc, .slice a.qa S.Q.length a.qc] 49)
 have hX := SXB.new w a S
 have hS0 := hS.below hb (Nat.le_refl _)
 have H2 := Lib.hid (fun w' (hb' : Below (w.alloc (.cells #[.slice a.ga S.G.length a.gc, .slice a.va S.V.length a.vc, .slice a.qa S.Q.length a.qc] 49)).heap.size (w.alloc (.cells #[.slice a.ga S.G.length a.gc, .slice a.va S.V.length a.vc, .slice a.qa S.Q.length a.qc] 49)) w') => rmany_any a S w' (hS0.below hb' (Nat.le_refl _)) hok)
 have H3 := Lib.hid (fun w' (hb' : Below (w.alloc (.cells #[.slice a.ga S.G.length a.gc, .slice a.va S.V.length a.vc, .slice a.qa S.Q.length a.qc] 49)).heap.size (w.alloc (.cells #[.slice a.ga S.G.length a.gc, .slice a.va S.V.length a.vc, .slice a.qa S.Q.length a.qc] 49)) w') => relements_any a S w' (hS0.below hb' (Nat.le_refl _)) hok hf h64)
 have H4 := Lib.hid (fun w' (hb' : Below (w.alloc (.cells #[.slice a.ga S.G.length a.gc, .slice a.va S.V.length a.vc, .slice a.qa S.Q.length a.qc] 49)).heap.size (w.alloc (.cells #[.slice a.ga S.G.length a.gc, .slice a.va S.V.length a.vc, .slice a.qa S.Q.length a.qc] 49)) w') => rtyped_any a S w' (hS0.below hb' (Nat.le_refl _)) hok hf)
 have HL : rstE S.pl = if manyB S.pl = true then 6 else if elB S.pl = true then (if typB S.pl = true then 0 else 10) else 13 := rfl
 obtain ⟨Z, hZ⟩ : ∃ Z, rstE S.pl = Z := ⟨_, rfl⟩
 rw [hZ] at HL ⊢
 obtain ⟨M, hM⟩ : ∃ F, manyB S.pl = F := ⟨_, rfl⟩
 obtain ⟨E, hE⟩ : ∃ F, elB S.pl = F := ⟨_, rfl⟩
 obtain ⟨T, hT⟩ : ∃ F, typB S.pl = F := ⟨_, rfl⟩
 rw [hM] at H2 HL
 rw [hE] at H3 HL
 rw [hT] at H4 HL
 have HZ := Lib.hid HL
 have hX0 := hX.c0
 have hX1 := hX.c1
 have hX2 := hX.c2
 clear hZ HL hM hE hT hS hS0 hok hX hf h64
 cases M
 rotate_left
 ·
  obtain rfl : Z = 6 := HZ.out
  go_enter Tryz.func46, Tryz.ntmps46
  go_wp2_with fail
  generalize hw0 : World.alloc _ _ = w0 at hb hX0 hX1 hX2 H2 ⊢
  clear hw0
  go_wp2_with fail
  refine (H2.out _ (Below.refl _ _)).mono ?_; rintro e w1 ⟨rfl, b1⟩
  have hb1 := hb.trans (b1.mono hb.size)
  go_wp2_with fail
  go_ret
  exact ⟨rfl, hb1⟩
 cases E
 ·
  obtain rfl : Z = 13 := HZ.out
  go_enter Tryz.func46, Tryz.ntmps46
  go_wp2_with fail
  generalize hw0 : World.alloc _ _ = w0 at hb hX0 hX1 hX2 H2 H3 ⊢
  clear hw0
  go_wp2_with fail
  refine (H2.out _ (Below.refl _ _)).mono ?_; rintro e w1 ⟨rfl, b1⟩
  have hb1 := hb.trans (b1.mono hb.size)
  have x0 := cells_keepL b1 (Nat.le_refl _) _ _ hX0
  have x1 := cells_keepL b1 (Nat.le_refl _) _ _ hX1
  have x2 := cells_keepL b1 (Nat.le_refl _) _ _ hX2
  go_wp2_with fail
  refine (H3.out _ b1).mono ?_; rintro e w2 ⟨rfl, b2⟩
  have hb2 := hb1.trans (b2.mono hb1.size)
  go_wp2_with fail
  go_ret
  exact ⟨rfl, hb2⟩
 cases T
 all_goals
  first | obtain rfl : Z = 10 := HZ.out | obtain rfl : Z = 0 := HZ.out
  go_enter Tryz.func46, Tryz.ntmps46
  go_wp2_with fail
  generalize hw0 : World.alloc _ _ = w0 at hb hX0 hX1 hX2 H2 H3 H4 ⊢
  clear hw0
  go_wp2_with fail
  refine (H2.out _ (Below.refl _ _)).mono ?_; rintro e w1 ⟨rfl, b1⟩
  have hb1 := hb.trans (b1.mono hb.size)
  have x0 := cells_keepL b1 (Nat.le_refl _) _ _ hX0
  have x1 := cells_keepL b1 (Nat.le_refl _) _ _ hX1
  have x2 := cells_keepL b1 (Nat.le_refl _) _ _ hX2
  go_wp2_with fail
  refine (H3.out _ b1).mono ?_; rintro e w2 ⟨rfl, b2⟩
  have hb2 := hb1.trans (b2.mono hb1.size)
  have b12 := b1.trans (b2.mono b1.size)
  have y0 := cells_keepL b2 (Nat.le_refl _) _ _ x0
  have y1 := cells_keepL b2 (Nat.le_refl _) _ _ x1
  have y2 := cells_keepL b2 (Nat.le_refl _) _ _ x2
  clear x0 x1 x2 hX0 hX1 hX2
  go_wp2_with fail
  refine (H4.out _ b12).mono ?_; rintro e w3 ⟨rfl, b3⟩
  have hb3 := hb2.trans (b3.mono hb2.size)
  go_wp2_with fail
  go_ret
  exact ⟨rfl, hb3⟩
theorem rcheck_any (a : StA) (S : StM) (w : World) (hS : SS w a S) (hok : S.ok) (h64 : ∀ g ∈ S.G, g.1.size ≤ 64) :
  Calls Tryz.prog 48 #[.agg #[.slice a.ga S.G.length a.gc, .slice a.va S.V.length a.vc, .slice a.qa S.Q.length a.qc]] w fun e w' => e = .returned (.int .i64 (lckE S.pl)) ∧ Below w.heap.size w w' := by
 have hb := (Below.refl _ w).alloc (Nat.le_refl _) (.cells #[.slice a.ga S.G.length a.gc, .slice a.va S.V.length a.vc, .slice a.qa S.Q.length a.qc] 49)
 have hX := SXB.new w a S
 have hS0 := hS.below hb (Nat.le_refl _)
 have H1 := Lib.hid (rformed_any a S (w.alloc (.cells #[.slice a.ga S.G.length a.gc, .slice a.va S.V.length a.vc, .slice a.qa S.Q.length a.qc] 49)) hS0 hok)
 have H2 := Lib.hid (fun w' (hb' : Below (w.alloc (.cells #[.slice a.ga S.G.length a.gc, .slice a.va S.V.length a.vc, .slice a.qa S.Q.length a.qc] 49)).heap.size (w.alloc (.cells #[.slice a.ga S.G.length a.gc, .slice a.va S.V.length a.vc, .slice a.qa S.Q.length a.qc] 49)) w') hf => rrest_any a S w' (hS0.below hb' (Nat.le_refl _)) hok hf h64)
 have HL : lckE S.pl = if formB S.pl = true then rstE S.pl else 3 := rfl
 rw [HL]
 obtain ⟨F, hF⟩ : ∃ F, formB S.pl = F := ⟨_, rfl⟩
 obtain ⟨E, hE⟩ : ∃ F, rstE S.pl = F := ⟨_, rfl⟩
 rw [hF] at H1 H2 ⊢
 rw [hE] at H2 ⊢
 have hX0 := hX.c0
 have hX1 := hX.c1
 have hX2 := hX.c2
 clear HL hF hE hS hS0 hok hX h64
 cases F
 ·
  rw [if_neg (by decide)]
  go_enter Tryz.func48, Tryz.ntmps48
  go_wp2_with fail
  generalize hw0 : World.alloc _ _ = w0 at hb hX0 hX1 hX2 H1 ⊢
  clear hw0
  go_wp2_with fail
  refine H1.out.mono ?_; rintro e w1 ⟨rfl, b1⟩
  have hb1 := hb.trans (b1.mono hb.size)
  go_wp2_with fail
  go_ret
  exact ⟨rfl, hb1⟩
 ·
  rw [if_pos rfl]
  go_enter Tryz.func48, Tryz.ntmps48
  go_wp2_with fail
  generalize hw0 : World.alloc _ _ = w0 at hb hX0 hX1 hX2 H1 H2 ⊢
  clear hw0
  go_wp2_with fail
  refine H1.out.mono ?_; rintro e w1 ⟨rfl, b1⟩
  have hb1 := hb.trans (b1.mono hb.size)
  have x0 := cells_keepL b1 (Nat.le_refl _) _ _ hX0
  have x1 := cells_keepL b1 (Nat.le_refl _) _ _ hX1
  have x2 := cells_keepL b1 (Nat.le_refl _) _ _ hX2
  go_wp2_with fail
  refine (H2.out _ b1 (by trivial)).mono ?_; rintro e w2 ⟨rfl, b2⟩
  have hb2 := hb1.trans (b2.mono hb1.size)
  go_wp2_with fail
  go_ret
  exact ⟨rfl, hb2⟩
end Go.Proofs.YtdhhbjmkdmbffaaGreatDoor

/- The law's helpers Few, FewInts; the walk of LinearChecks. -/
namespace Go.Proofs.YtdhhbjmkdmbffaaGreatDoor
open Go.RowKit Num
set_option maxRecDepth 20000
set_option linter.unusedVariables false
/-- what Few shows -/
structure FewP (S : StM) : Prop where
 gl : S.G.length ≤ 10
 vl : S.V.length ≤ 12
 ql : S.Q.length ≤ 12
 g : ∀ k (h : k < S.G.length), S.G[k].1.size ≤ 8 ∧ S.G[k].2.size ≤ 8
 v : ∀ k (h : k < S.V.length), S.V[k].size ≤ 16
 q : ∀ k (h : k < S.Q.length), S.Q[k].2.1.size ≤ 12 ∧ S.Q[k].2.2.2.2.length ≤ 12 ∧ ∀ j (h' : j < S.Q[k].2.2.2.2.length), S.Q[k].2.2.2.2[j].1.size ≤ 12 ∧ S.Q[k].2.2.2.2[j].2.2.2.size ≤ 8
/-- what a test of sizes answers -/
def FWP (P : Prop) (w : World) : Ending → World → Prop := fun e w' => ∃ V, e = .returned (.bool V) ∧ (V = true → P) ∧ Below w.heap.size w w'
theorem FWP.no {P : Prop} {w w' : World} (h : Below w.heap.size w w') : FWP P w (.returned (.bool false)) w' := ⟨_, rfl, (fun e => by cases e), h⟩
theorem FWP.yes {P : Prop} {w w' : World} (hP : P) (h : Below w.heap.size w w') : FWP P w (.returned (.bool true)) w' := ⟨_, rfl, (fun _ => hP), h⟩
set_option maxHeartbeats 8000000 in
theorem few_any (a : StA) (S : StM) (w : World) (hS : SS w a S) (hok : S.ok) :
  Calls Tryz.prog 15 #[.agg #[.slice a.ga S.G.length a.gc, .slice a.va S.V.length a.vc, .slice a.qa S.Q.length a.qc]] w (FWP (FewP S) w) := by
 have hb := (Below.refl _ w).alloc (Nat.le_refl _) (.cells #[.slice a.ga S.G.length a.gc, .slice a.va S.V.length a.vc, .slice a.qa S.Q.length a.qc] 49)
 have hX := SXB.new w a S
 have hS0 := hS.below hb (Nat.le_refl _)
 obtain ⟨FP, hFP⟩ : ∃ p, FewP S = p := ⟨_, rfl⟩
 have HFI : Hid (S.G.length ≤ 10 → S.V.length ≤ 12 → S.Q.length ≤ 12 → (∀ k (h : k < S.G.length), S.G[k].1.size ≤ 8 ∧ S.G[k].2.size ≤ 8) → (∀ k (h : k < S.V.length), S.V[k].size ≤ 16) → (∀ k (h : k < S.Q.length), S.Q[k].2.1.size ≤ 12 ∧ S.Q[k].2.2.2.2.length ≤ 12 ∧ ∀ j (h' : j < S.Q[k].2.2.2.2.length), S.Q[k].2.2.2.2[j].1.size ≤ 12 ∧ S.Q[k].2.2.2.2[j].2.2.2.size ≤ 8) → FP) := by
  show _
  rw [← hFP]
  exact fun h1 h2 h3 h4 h5 h6 => ⟨h1, h2, h3, h4, h5, h6⟩
 rw [hFP]
 clear hFP
 have hX0 := hX.c0
 have hX1 := hX.c1
 have hX2 := hX.c2
 have HG := Lib.hid hS0.g
 have HV := Lib.hid hS0.v
 have HQ := Lib.hid hS0.q
 have l1 : S.G.length ≤ maxLen := hok.gl
 have l2 : S.V.length ≤ maxLen := hok.vl
 have l3 : S.Q.length ≤ maxLen := hok.ql
 have g4 : Hid (∀ g ∈ S.G, g.1.size ≤ maxLen ∧ g.2.size ≤ maxLen) := hok.g
 have v4 : Hid (∀ v ∈ S.V, v.size ≤ maxLen) := hok.v
 have q4 : Hid (∀ q ∈ S.Q, EqR.ok q) := hok.q
 clear hS hS0 hok hX
 obtain ⟨ga, gc, va, vc, qa, qc⟩ := a
 obtain ⟨G, W, Q⟩ := S
 simp only at hb hX0 hX1 hX2 HG HV HQ l1 l2 l3 g4 v4 q4 HFI ⊢
 unfold EqR.ok TmR.ok at q4
 unfold maxLen at l1 l2 l3 g4 v4 q4
 obtain ⟨ng, hng⟩ : ∃ n, G.length = n := ⟨_, rfl⟩
 obtain ⟨nw, hnv⟩ : ∃ n, W.length = n := ⟨_, rfl⟩
 obtain ⟨mq, hnq⟩ : ∃ n, Q.length = n := ⟨_, rfl⟩
 have HNG := Lib.hid hng
 have HNV := Lib.hid hnv
 have HNQ := Lib.hid hnq
 simp only [hng, hnv, hnq] at hb hX0 hX1 hX2 l1 l2 l3 HG HV HQ ⊢
 clear hng hnv hnq
 by_cases t1 : 10 < ng
 ·
  have e1 : decide ((10 : Int) < (ng : Int)) = true := decide_eq_true (by omega)
  have e1' : (10 : Int) < (ng : Int) := by omega
  go_enter Tryz.func15, Tryz.ntmps15
  go_wp2_with fail
  go_ret
  exact FWP.no hb
 have e1 : decide ((10 : Int) < (ng : Int)) = false := decide_eq_false (by omega)
 have e1' : ¬ (10 : Int) < (ng : Int) := by omega
 by_cases t2 : 12 < nw
 ·
  have e2 : decide ((12 : Int) < (nw : Int)) = true := decide_eq_true (by omega)
  have e2' : (12 : Int) < (nw : Int) := by omega
  go_enter Tryz.func15, Tryz.ntmps15
  go_wp2_with fail
  go_ret
  exact FWP.no hb
 have e2 : decide ((12 : Int) < (nw : Int)) = false := decide_eq_false (by omega)
 have e2' : ¬ (12 : Int) < (nw : Int) := by omega
 by_cases t3 : 12 < mq
 ·
  have e3 : decide ((12 : Int) < (mq : Int)) = true := decide_eq_true (by omega)
  have e3' : (12 : Int) < (mq : Int) := by omega
  go_enter Tryz.func15, Tryz.ntmps15
  go_wp2_with fail
  go_ret
  exact FWP.no hb
 have e3 : decide ((12 : Int) < (mq : Int)) = false := decide_eq_false (by omega)
 have e3' : ¬ (12 : Int) < (mq : Int) := by omega
 have H3 := Lib.hid (And.intro t1 (And.intro t2 t3))
 go_enter Tryz.func15, Tryz.ntmps15
 go_wp2_with fail
 clear e1 e1' e2 e2' e3 e3' t1 t2 t3
 generalize hw0 : World.alloc _ _ = w0 at hb hX0 hX1 hX2 HG HV HQ ⊢
 clear hw0
 go_loopw [3] (fun v3 wr => ∃ k : Nat, k ≤ ng ∧ v3 = .int .i64 (k : Int) ∧ Hid (∀ i (h : i < G.length), i < k → G[i].1.size ≤ 8 ∧ G[i].2.size ≤ 8) ∧ wr = w0) (fun v3 _ => ng - (intOf v3).toNat)
 case atStart => exact ⟨0, by omega, rfl, fun i _ h => by omega, rfl⟩
 case round =>
  obtain ⟨k, hk, rfl, hP, rfl⟩ := hrel
  by_cases hlt : k < ng
  ·
   have hkG : k < G.length := by rw [HNG.out]; exact hlt
   obtain ⟨b, off, rfl, c0, c1⟩ := HG.out k hkG
   obtain ⟨s1, s2⟩ := g4.out _ (List.getElem_mem hkG)
   have HX : Hid (∃ x, G[k] = x) := ⟨_, rfl⟩
   obtain ⟨x, hx⟩ := HX
   rw [hx] at c0 c1 s1 s2
   obtain ⟨M, O⟩ := x
   simp only at c0 c1 s1 s2
   have HX := Lib.hid hx
   clear hx
   by_cases t1 : 8 < M.size
   ·
    have e1 : decide ((8 : Int) < (M.size : Int)) = true := decide_eq_true (by omega)
    have e1' : (8 : Int) < (M.size : Int) := by omega
    go_wp2_with fail
    go_ret
    exact FWP.no hb
   have e1 : decide ((8 : Int) < (M.size : Int)) = false := decide_eq_false (by omega)
   have e1' : ¬ (8 : Int) < (M.size : Int) := by omega
   by_cases t2 : 8 < O.size
   ·
    have e2 : decide ((8 : Int) < (O.size : Int)) = true := decide_eq_true (by omega)
    have e2' : (8 : Int) < (O.size : Int) := by omega
    go_wp2_with fail
    go_ret
    exact FWP.no hb
   have e2 : decide ((8 : Int) < (O.size : Int)) = false := decide_eq_false (by omega)
   have e2' : ¬ (8 : Int) < (O.size : Int) := by omega
   have HN : Hid (∀ i (h : i < G.length), i < k + 1 → G[i].1.size ≤ 8 ∧ G[i].2.size ≤ 8) := fun i h h' => by
    by_cases e : i = k
    ·
     subst e; rw [HX.out]; exact ⟨by show M.size ≤ 8; omega, by show O.size ≤ 8; omega⟩
    ·
     exact hP.out i h (by omega)
   clear hP hkG HX
   go_wp2_with fail
   exact ⟨⟨k + 1, by omega, by go_num, HN, by trivial⟩, by simp [intOf]; omega⟩
  ·
   obtain rfl : ng = k := by omega
   have HPG : Hid (∀ i (h : i < G.length), G[i].1.size ≤ 8 ∧ G[i].2.size ≤ 8) := fun i h => hP.out i h (by rw [HNG.out] at h; exact h)
   clear hP
   go_wp2_with fail
   obtain ⟨wo1, rfl⟩ : ∃ wo : World, wo = wr := ⟨_, rfl⟩
   go_loopw [4] (fun v4 wr => ∃ k : Nat, k ≤ nw ∧ v4 = .int .i64 (k : Int) ∧ Hid (∀ i (h : i < W.length), i < k → W[i].size ≤ 16) ∧ wr = wo1) (fun v4 _ => nw - (intOf v4).toNat)
   case atStart => exact ⟨0, by omega, rfl, fun i _ h => by omega, rfl⟩
   case round =>
    obtain ⟨k, hk, rfl, hP, rfl⟩ := hrel
    by_cases hlt : k < nw
    ·
     have hkW : k < W.length := by rw [HNV.out]; exact hlt
     obtain ⟨b, off, rfl, c0⟩ := HV.out k hkW
     have s1 := v4.out _ (List.getElem_mem hkW)
     obtain ⟨x, hx⟩ : ∃ x, W[k] = x := ⟨_, rfl⟩
     rw [hx] at c0 s1
     have HX := Lib.hid hx
     clear hx
     by_cases t1 : 16 < x.size
     ·
      have e1 : decide ((16 : Int) < (x.size : Int)) = true := decide_eq_true (by omega)
      have e1' : (16 : Int) < (x.size : Int) := by omega
      go_wp2_with fail
      go_ret
      exact FWP.no hb
     have e1 : decide ((16 : Int) < (x.size : Int)) = false := decide_eq_false (by omega)
     have e1' : ¬ (16 : Int) < (x.size : Int) := by omega
     have HN : Hid (∀ i (h : i < W.length), i < k + 1 → W[i].size ≤ 16) := fun i h h' => by
      by_cases e : i = k
      ·
       subst e; rw [HX.out]; omega
      ·
       exact hP.out i h (by omega)
     clear hP hkW HX
     go_wp2_with fail
     exact ⟨⟨k + 1, by omega, by go_num, HN, by trivial⟩, by simp [intOf]; omega⟩
    ·
     obtain rfl : nw = k := by omega
     have HPV : Hid (∀ i (h : i < W.length), W[i].size ≤ 16) := fun i h => hP.out i h (by rw [HNV.out] at h; exact h)
     clear hP
     go_wp2_with fail
     obtain ⟨wo2, rfl⟩ : ∃ wo : World, wo = wr := ⟨_, rfl⟩
     go_loopw [5] (fun v5 wr => ∃ k : Nat, k ≤ mq ∧ v5 = .int .i64 (k : Int) ∧ Hid (∀ i (h : i < Q.length), i < k → Q[i].2.1.size ≤ 12 ∧ Q[i].2.2.2.2.length ≤ 12 ∧ ∀ j (h' : j < Q[i].2.2.2.2.length), Q[i].2.2.2.2[j].1.size ≤ 12 ∧ Q[i].2.2.2.2[j].2.2.2.size ≤ 8) ∧ wr = wo2) (fun v5 _ => mq - (intOf v5).toNat)
     case atStart => exact ⟨0, by omega, rfl, fun i _ h => by omega, rfl⟩
     case round =>
      obtain ⟨k, hk, rfl, hP, rfl⟩ := hrel
      by_cases hlt : k < mq
      ·
       have hkQ : k < Q.length := by rw [HNQ.out]; exact hlt
       obtain ⟨b, off, rfl, c0, c1, c2, hT⟩ := HQ.out k hkQ
       obtain ⟨ss, s1, s2, s3⟩ := q4.out _ (List.getElem_mem hkQ)
       obtain ⟨x, hx⟩ : ∃ x, Q[k] = x := ⟨_, rfl⟩
       rw [hx] at c0 c1 c2 hT ss s1 s2 s3
       clear ss
       obtain ⟨u, T, ta, tc, L⟩ := x
       simp only at c0 c1 c2 hT s1 s2 s3
       have HX := Lib.hid hx
       have S3 := Lib.hid s3
       obtain ⟨nt, hnt⟩ : ∃ n, L.length = n := ⟨_, rfl⟩
       rw [hnt] at c2 s2
       have HNT := Lib.hid hnt
       have HT := Lib.hid hT
       clear hx s3 hT hnt
       by_cases t1 : 12 < T.size
       ·
        have e1 : decide ((12 : Int) < (T.size : Int)) = true := decide_eq_true (by omega)
        have e1' : (12 : Int) < (T.size : Int) := by omega
        go_wp2_with fail
        go_ret
        exact FWP.no hb
       have e1 : decide ((12 : Int) < (T.size : Int)) = false := decide_eq_false (by omega)
       have e1' : ¬ (12 : Int) < (T.size : Int) := by omega
       by_cases t2 : 12 < nt
       ·
        have e2 : decide ((12 : Int) < (nt : Int)) = true := decide_eq_true (by omega)
        have e2' : (12 : Int) < (nt : Int) := by omega
        go_wp2_with fail
        go_ret
        exact FWP.no hb
       have e2 : decide ((12 : Int) < (nt : Int)) = false := decide_eq_false (by omega)
       have e2' : ¬ (12 : Int) < (nt : Int) := by omega
       have H12 := Lib.hid (And.intro t1 t2)
       go_wp2_with fail
       clear e1 e1' e2 e2' t1 t2
       obtain ⟨wo3, rfl⟩ : ∃ wo : World, wo = wr := ⟨_, rfl⟩
       go_loopw [6] (fun v6 wr => ∃ i : Nat, i ≤ nt ∧ v6 = .int .i64 (i : Int) ∧ Hid (∀ j (h : j < L.length), j < i → L[j].1.size ≤ 12 ∧ L[j].2.2.2.size ≤ 8) ∧ wr = wo3) (fun v6 _ => nt - (intOf v6).toNat)
       case atStart => exact ⟨0, by omega, rfl, fun i _ h => by omega, rfl⟩
       case round =>
        obtain ⟨i, hi, rfl, hR, rfl⟩ := hrel
        by_cases hli : i < nt
        ·
         have hiL : i < L.length := by rw [HNT.out]; exact hli
         obtain ⟨b3, off3, rfl, d0, d1, d2, d3⟩ := HT.out i hiL
         obtain ⟨z1, zz, z2⟩ := S3.out _ (List.getElem_mem hiL)
         obtain ⟨y, hy⟩ : ∃ x, L[i] = x := ⟨_, rfl⟩
         rw [hy] at d0 d1 d2 d3 z1 zz z2
         clear zz
         obtain ⟨s, uu, g, E⟩ := y
         simp only at d0 d1 d2 d3 z1 z2
         have HY := Lib.hid hy
         clear hy
         by_cases t1 : 12 < s.size
         ·
          have e1 : decide ((12 : Int) < (s.size : Int)) = true := decide_eq_true (by omega)
          have e1' : (12 : Int) < (s.size : Int) := by omega
          go_wp2_with fail
          go_ret
          exact FWP.no hb
         have e1 : decide ((12 : Int) < (s.size : Int)) = false := decide_eq_false (by omega)
         have e1' : ¬ (12 : Int) < (s.size : Int) := by omega
         by_cases t2 : 8 < E.size
         ·
          have e2 : decide ((8 : Int) < (E.size : Int)) = true := decide_eq_true (by omega)
          have e2' : (8 : Int) < (E.size : Int) := by omega
          go_wp2_with fail
          go_ret
          exact FWP.no hb
         have e2 : decide ((8 : Int) < (E.size : Int)) = false := decide_eq_false (by omega)
         have e2' : ¬ (8 : Int) < (E.size : Int) := by omega
         have HN : Hid (∀ j (h : j < L.length), j < i + 1 → L[j].1.size ≤ 12 ∧ L[j].2.2.2.size ≤ 8) := fun j h h' => by
          by_cases e : j = i
          ·
           subst e; rw [HY.out]; exact ⟨by show s.size ≤ 12; omega, by show E.size ≤ 8; omega⟩
          ·
           exact hR.out j h (by omega)
         clear hR hiL HY
         go_wp2_with fail
         exact ⟨⟨i + 1, by omega, by go_num, HN, by trivial⟩, by simp [intOf]; omega⟩
        ·
         obtain rfl : nt = i := by omega
         have HN : Hid (∀ i (h : i < Q.length), i < k + 1 → Q[i].2.1.size ≤ 12 ∧ Q[i].2.2.2.2.length ≤ 12 ∧ ∀ j (h' : j < Q[i].2.2.2.2.length), Q[i].2.2.2.2[j].1.size ≤ 12 ∧ Q[i].2.2.2.2[j].2.2.2.size ≤ 8) := fun i h h' => by
          by_cases e : i = k
          ·
           subst e
           rw [HX.out]
           refine ⟨by show T.size ≤ 12; have := H12.out.1; omega, by show L.length ≤ 12; have := H12.out.2; have := HNT.out; omega, fun j hj => ?_⟩
           exact hR.out j hj (by have : j < L.length := hj; rw [HNT.out] at this; exact this)
          ·
           exact hP.out i h (by omega)
         clear hR hP HX hkQ
         go_wp2_with fail
         exact ⟨⟨k + 1, by omega, by go_num, HN, by trivial⟩, by simp [intOf]; omega⟩
      ·
       obtain rfl : mq = k := by omega
       have HF : Hid FP := HFI.out (by have := H3.out.1; have := HNG.out; omega) (by have := H3.out.2.1; have := HNV.out; omega) (by have := H3.out.2.2; have := HNQ.out; omega) HPG.out HPV.out (fun i h => hP.out i h (by rw [HNQ.out] at h; exact h))
       clear hP
       go_wp2_with fail
       go_ret
       exact FWP.yes HF.out hb
end Go.Proofs.YtdhhbjmkdmbffaaGreatDoor

/- The variables that the rows of this seat lay. -/
namespace Go.Proofs.YtdhhbjmkdmbffaaGreatDoor
open Go.ChangeShapes Go.WideShapes Go.ChangeAt Go.RowKit
def laidT {H : Type} : List (String × DataW H) := [("math/bits.deBruijn32tab", Rows.laid_math_bits_deBruijn32tab), ("math/bits.deBruijn64tab", Rows.laid_math_bits_deBruijn64tab), ("internal/strconv.uint64pow10", Rows.laid_internal_strconv_uint64pow10)]
set_option maxRecDepth 100000 in
/-- the door's own heap meets the condition -/
theorem door_met (os : Os) (args : Array Value) : laidMetH Tryz.prog laidT ((World.doorLaid Tryz.prog 400 os).forCall (fun _ _ => 0) ⟨#[], args, []⟩).memory :=
 laidMetH_of_parts3 (fuel := 8) (laidMet_of_run' 8 (by kernel_rfl) (by kernel_rfl)) (by kernel_rfl) (by kernel_rfl)
end Go.Proofs.YtdhhbjmkdmbffaaGreatDoor

/- The reference of layer 15: InRange, check, images, Images, Holds. -/
namespace Go.Proofs.YtdhhbjmkdmbffaaGreatDoor
open Go.RowKit Num
set_option maxRecDepth 20000
set_option linter.unusedVariables false
theorem rcmpL {s t : ByteArray} {a b : Nat} {z : Int} (hs : IsN s a) (ht : IsN t b) (h : ncmp a b = z) : ∀ w, Calls Tryz.prog 47 #[.string s, .string t] w fun e w' => e = .returned (.int .i64 z) ∧ Below w.heap.size w w' := fun w => (refCmp_any s t a b w hs ht).mono fun _ _ ⟨h1, h2⟩ => ⟨by rw [h1, h], h2⟩
end Go.Proofs.YtdhhbjmkdmbffaaGreatDoor

/- FewInts, SameNats; the walks of LinearHolds and LinearImages. -/
namespace Go.Proofs.YtdhhbjmkdmbffaaGreatDoor
open Go.RowKit Num
set_option maxRecDepth 20000
set_option linter.unusedVariables false
/-- what FewInts shows -/
def FIP (l : List (Bool × ByteArray)) : Prop := l.length ≤ 20 ∧ ∀ k (h : k < l.length), l[k].2.size ≤ 24
theorem few_sms {S : StM} {l : List (Bool × ByteArray)} (h : FewP S) (hl : FIP l) : SmS S l :=
 ⟨fun q hq t ht => by
  obtain ⟨i, hi, rfl⟩ := List.mem_iff_getElem.1 hq
  obtain ⟨j, hj, rfl⟩ := List.mem_iff_getElem.1 ht
  exact ((h.q i hi).2.2 j hj).2, fun x hx => by
  obtain ⟨i, hi, rfl⟩ := List.mem_iff_getElem.1 hx
  have := hl.2 i hi
  omega⟩
theorem few_64 {S : StM} (h : FewP S) : ∀ g ∈ S.G, g.1.size ≤ 64 := fun g hg => by
 obtain ⟨i, hi, rfl⟩ := List.mem_iff_getElem.1 hg
 have := (h.g i hi).1
 omega
set_option maxHeartbeats 4000000 in
theorem fewInts_any (bo : Option Addr) (n c : Nat) (l : List (Bool × ByteArray)) (w : World) (hl : IS w bo l) (hn : l.length = n) (hn1 : n ≤ maxLen) (hz : ∀ x ∈ l, x.2.size ≤ maxLen) :
  Calls Tryz.prog 21 #[.slice bo n c] w (FWP (FIP l) w) := by
 have HL := Lib.hid hl
 have HN := Lib.hid hn
 have HZ := Lib.hid hz
 have HFI : Hid (l.length ≤ 20 → (∀ k (h : k < l.length), l[k].2.size ≤ 24) → FIP l) := fun h1 h2 => ⟨h1, h2⟩
 obtain ⟨FP, hFP⟩ : ∃ p, FIP l = p := ⟨_, rfl⟩
 rw [hFP] at HFI ⊢
 unfold maxLen at hn1 HZ
 clear hl hn hz hFP
 go_enter Tryz.func21, Tryz.ntmps21
 go_wp2_with fail
 go_loopw [3] (fun v3 wr => ∃ k : Nat, k ≤ n ∧ k ≤ 20 ∧ v3 = .int .i64 (k : Int) ∧ Hid (∀ i (h : i < l.length), i < k → l[i].2.size ≤ 24) ∧ wr = w) (fun v3 _ => n - (intOf v3).toNat)
 case atStart => exact ⟨0, by omega, by omega, rfl, fun i _ h => by omega, rfl⟩
 case round =>
  obtain ⟨k, hk, hk2, rfl, hP, rfl⟩ := hrel
  by_cases hlt : k < n
  ·
   by_cases h20 : k < 20
   ·
    have hkl : k < l.length := by rw [HN.out]; exact hlt
    obtain ⟨b, off, rfl, c0, c1⟩ := HL.out k hkl
    have s1 := HZ.out _ (List.getElem_mem hkl)
    obtain ⟨x, hx⟩ : ∃ x, l[k] = x := ⟨_, rfl⟩
    rw [hx] at c0 c1 s1
    obtain ⟨g, E⟩ := x
    simp only at c0 c1 s1
    have HX := Lib.hid hx
    clear hx
    by_cases t1 : 24 < E.size
    ·
     have e1 : decide ((24 : Int) < (E.size : Int)) = true := decide_eq_true (by omega)
     have e1' : (24 : Int) < (E.size : Int) := by omega
     go_wp2_with fail
     go_ret
     exact FWP.no (Below.refl _ _)
    have e1 : decide ((24 : Int) < (E.size : Int)) = false := decide_eq_false (by omega)
    have e1' : ¬ (24 : Int) < (E.size : Int) := by omega
    have HNx : Hid (∀ i (h : i < l.length), i < k + 1 → l[i].2.size ≤ 24) := fun i h h' => by
     by_cases e : i = k
     ·
      subst e; rw [HX.out]; show E.size ≤ 24; omega
     ·
      exact hP.out i h (by omega)
    clear hP hkl HX
    go_wp2_with fail
    exact ⟨⟨k + 1, by omega, by omega, by go_num, HNx, by trivial⟩, by simp [intOf]; omega⟩
   ·
    obtain rfl : k = 20 := by omega
    have e1 : decide ((n : Int) ≤ 20) = false := decide_eq_false (by omega)
    have e1' : ¬ (n : Int) ≤ 20 := by omega
    clear hP
    go_wp2_with fail
    go_ret
    exact FWP.no (Below.refl _ _)
  ·
   obtain rfl : n = k := by omega
   have HF : Hid FP := HFI.out (by have := HN.out; omega) (fun i h => hP.out i h (by rw [HN.out] at h; exact h))
   have e1 : decide ((n : Int) ≤ 20) = true := decide_eq_true (by omega)
   have e1' : (n : Int) ≤ 20 := by omega
   clear hP
   go_wp2_with fail
   go_ret
   exact FWP.yes HF.out (Below.refl _ _)
end Go.Proofs.YtdhhbjmkdmbffaaGreatDoor

/- The walk of LinearAgrees. -/
namespace Go.Proofs.YtdhhbjmkdmbffaaGreatDoor
open Go.RowKit Num
set_option maxRecDepth 20000
set_option linter.unusedVariables false
theorem all_take {α : Type} (p : α → Bool) {L : List α} {k : Nat} (h : k < L.length) : (L.take (k + 1)).all p = ((L.take k).all p && p L[k]) := by
 rw [List.take_succ_eq_append_getElem h, List.all_append]; simp
theorem zip_take {V : List ByteArray} {l : List (Bool × ByteArray)} {k : Nat} (o : ByteArray) (h1 : k < V.length) (h2 : k < l.length) : ((V.zip l).take (k + 1)).all (fun p => inV o p.1 p.2) = (((V.zip l).take k).all (fun p => inV o p.1 p.2) && inV o V[k] l[k]) := by
 have h : k < (V.zip l).length := by rw [List.length_zip]; omega
 rw [all_take _ h, List.getElem_zip]
theorem ordL_drop {G : List (ByteArray × ByteArray)} {k : Nat} (h : k < G.length) : ordL (G.drop k) = if emB G[k].2 = true then ordL (G.drop (k + 1)) else G[k].2 := by
 rw [List.drop_eq_getElem_cons h]; rfl
end Go.Proofs.YtdhhbjmkdmbffaaGreatDoor

/- Sums of integers, as the reference makes them. -/
namespace Go.Proofs.YtdhhbjmkdmbffaaGreatDoor
open Go.RowKit Num
set_option maxRecDepth 20000
set_option linter.unusedVariables false
set_option exponentiation.threshold 3000
/-- the sum that the reference makes -/
def adP (p q : Bool × ByteArray) : Bool × ByteArray := if ivB p = true ∧ ivB q = true then (zb (zi p + zi q), zs (zi p + zi q)) else (false, ⟨#[]⟩)
def adE (p q : Bool × ByteArray) : Int := if ivB p = true ∧ ivB q = true then 0 else 3
def adL (v w : List (Bool × ByteArray)) : List (Bool × ByteArray) := (v.zip w).map fun p => adP p.1 p.2
theorem ad_ok {p q : Bool × ByteArray} (hp : ivB p = true) (hq : ivB q = true) (sp : p.2.size ≤ 24) (sq : q.2.size ≤ 24) : ZOk (zi p + zi q) ∧ (zs (zi p + zi q)).size ≤ 32 := by
 have h1 := zi_lt hp sp
 have h2 := zi_lt hq sq
 have h3 : (zi p + zi q).natAbs < 256 ^ 32 := Nat.lt_of_le_of_lt (Int.natAbs_add_le _ _) (Nat.lt_of_lt_of_le (Nat.add_lt_add h1 h2) (by decide +kernel))
 have h4 : blen (zi p + zi q).natAbs ≤ 32 := by rw [blen_le_iff]; exact h3
 exact ⟨by unfold ZOk; omega, by unfold zs; rw [size_enc]; exact h4⟩
theorem adP_size {p q : Bool × ByteArray} (sp : p.2.size ≤ 24) (sq : q.2.size ≤ 24) : (adP p q).2.size ≤ 32 := by
 unfold adP
 split
 ·
  rename_i h; exact (ad_ok h.1 h.2 sp sq).2
 ·
  decide
theorem adP_iv {p q : Bool × ByteArray} (hp : ivB p = true) (hq : ivB q = true) (sp : p.2.size ≤ 24) (sq : q.2.size ≤ 24) : ivB (adP p q) = true ∧ zi (adP p q) = zi p + zi q := by
 have h := (ad_ok hp hq sp sq).1
 unfold adP
 rw [if_pos ⟨hp, hq⟩]
 exact ⟨iv_zz h, zi_z h⟩
theorem adL_len {v w : List (Bool × ByteArray)} (h : w.length = v.length) : (adL v w).length = v.length := by unfold adL; rw [List.length_map, List.length_zip]; omega
theorem adL_at {v w : List (Bool × ByteArray)} {k : Nat} (h : k < (adL v w).length) (h1 : k < v.length) (h2 : k < w.length) : (adL v w)[k] = adP v[k] w[k] := by
 simp [adL]
theorem adL_take {v w : List (Bool × ByteArray)} {k : Nat} (h : w.length = v.length) (h1 : k < v.length) (h2 : k < w.length) : (adL v w).take (k + 1) = (adL v w).take k ++ [adP v[k] w[k]] := by
 have h3 : k < (adL v w).length := by rw [adL_len h]; exact h1
 rw [List.take_succ_eq_append_getElem h3, adL_at h3 h1 h2]
theorem adL_mem {v w : List (Bool × ByteArray)} (h : w.length = v.length) {x : Bool × ByteArray} (hx : x ∈ adL v w) : ∃ k, ∃ (h1 : k < v.length) (h2 : k < w.length), x = adP v[k] w[k] := by
 obtain ⟨k, hk, rfl⟩ := List.mem_iff_getElem.1 hx
 have h1 : k < v.length := by rw [adL_len h] at hk; exact hk
 have h2 : k < w.length := by omega
 exact ⟨k, h1, h2, adL_at hk h1 h2⟩
theorem adL_sz {v w : List (Bool × ByteArray)} (h : w.length = v.length) (hv : FIP v) (hw : FIP w) : SzL (adL v w) := fun x hx => by
 obtain ⟨k, h1, h2, rfl⟩ := adL_mem h hx
 exact adP_size (hv.2 k h1) (hw.2 k h2)
theorem adL_iv {v w : List (Bool × ByteArray)} (h : w.length = v.length) (hv : FIP v) (hw : FIP w) (iv : v.all ivB = true) (iw : w.all ivB = true) : (adL v w).all ivB = true := by
 rw [List.all_eq_true]
 intro x hx
 obtain ⟨k, h1, h2, rfl⟩ := adL_mem h hx
 exact (adP_iv (List.all_eq_true.1 iv _ (List.getElem_mem h1)) (List.all_eq_true.1 iw _ (List.getElem_mem h2)) (hv.2 k h1) (hw.2 k h2)).1
theorem adL_zi {v w : List (Bool × ByteArray)} (h : w.length = v.length) (hv : FIP v) (hw : FIP w) (iv : v.all ivB = true) (iw : w.all ivB = true) (k : Nat) (hk : k < v.length) : zi ((adL v w).getD k (false, ⟨#[]⟩)) = zi (v.getD k (false, ⟨#[]⟩)) + zi (w.getD k (false, ⟨#[]⟩)) := by
 have h2 : k < w.length := by omega
 have h3 : k < (adL v w).length := by rw [adL_len h]; exact hk
 have e1 : (adL v w).getD k (false, ⟨#[]⟩) = (adL v w)[k] := by simp [List.getD_eq_getElem?_getD, h3]
 have e2 : v.getD k (false, ⟨#[]⟩) = v[k] := by simp [List.getD_eq_getElem?_getD, hk]
 have e3 : w.getD k (false, ⟨#[]⟩) = w[k] := by simp [List.getD_eq_getElem?_getD, h2]
 rw [e1, e2, e3, adL_at h3 hk h2]
 exact (adP_iv (List.all_eq_true.1 iv _ (List.getElem_mem hk)) (List.all_eq_true.1 iw _ (List.getElem_mem h2)) (hv.2 k hk) (hw.2 k h2)).2
theorem adL_sms {S : StM} {v w : List (Bool × ByteArray)} (hS : FewP S) (h : w.length = v.length) (hv : FIP v) (hw : FIP w) : SmS S (adL v w) := ⟨(few_sms hS hv).q, adL_sz h hv hw⟩
/-- where both are ready, so is the sum, and its images are the products -/
theorem ad_facts {S : StM} {v w : List (Bool × ByteArray)} (hS : FewP S) (h : w.length = v.length) (hv : FIP v) (hw : FIP w) (rv : rdE S.pl v = 0) (rw' : rdE S.pl w = 0) :
  lckE S.pl = 0 ∧ rdE S.pl (adL v w) = 0 ∧ imgS S.pl v = S.Q.map (fun q => imQ S.pl v (eqp q)) ∧ imgS S.pl w = S.Q.map (fun q => imQ S.pl w (eqp q)) ∧ imgS S.pl (adL v w) = S.Q.map (fun q => imQ S.pl (adL v w) (eqp q)) ∧
  ∀ q ∈ S.Q, ∃ j : Nat, q.1 = (j : Int) ∧ j < S.G.length ∧ gmE (S.G.getD j (⟨#[]⟩, ⟨#[]⟩)).1 (S.G.getD j (⟨#[]⟩, ⟨#[]⟩)).2 (imQ S.pl v (eqp q)) (imQ S.pl w (eqp q)) = 0 ∧ gmS (S.G.getD j (⟨#[]⟩, ⟨#[]⟩)).1 (S.G.getD j (⟨#[]⟩, ⟨#[]⟩)).2 (imQ S.pl v (eqp q)) (imQ S.pl w (eqp q)) = imQ S.pl (adL v w) (eqp q) := by
 obtain ⟨a1, a2, a3, a4⟩ := rd_zero rv
 obtain ⟨b1, b2, b3, b4⟩ := rd_zero rw'
 have c3 := adL_iv h hv hw a3 b3
 have c4 : (adL v w).length = S.V.length := by rw [adL_len h]; exact a4
 have c0 : rdE S.pl (adL v w) = 0 := by
  have hck := a1
  unfold lckE at hck
  rw [if_pos a2] at hck
  unfold rdE
  rw [if_pos ⟨a2, c3⟩, if_pos hck, if_pos (show (adL v w).length = S.pl.V.length from c4)]
 have im : ∀ l, rdE S.pl l = 0 → imgS S.pl l = S.Q.map (fun q => imQ S.pl l (eqp q)) := fun l hl => by unfold imgS; rw [if_pos hl]; unfold imS; rw [StM.pl_Q, List.map_map]; rfl
 refine ⟨a1, c0, im v rv, im w rw', im _ c0, fun q hq => ?_⟩
 obtain ⟨hf, hm, he, ht⟩ := ck_parts a1
 have hq' : eqp q ∈ S.pl.Q := by rw [StM.pl_Q]; exact List.mem_map_of_mem hq
 obtain ⟨f1, f2, f3, f4⟩ := form_q hf hq'
 obtain ⟨g1, g2⟩ := im_add a1 a3 b3 c3 a4 b4 c4 (fun k hk => adL_zi h hv hw a3 b3 k (by rw [a4]; exact hk)) hq' ((few_sms hS hv).q q hq) (few_sms hS hv).l (few_sms hS hw).l (adL_sz h hv hw)
 exact ⟨q.1.toNat, by have : 0 ≤ q.1 := f1; omega, f2, g1, g2⟩
theorem ad_lens {S : StM} {v w : List (Bool × ByteArray)} (h : rdE S.pl v ≠ 0 ∨ rdE S.pl w ≠ 0) : (imgS S.pl v).length + (imgS S.pl w).length ≤ S.Q.length := by
 have im : ∀ l, (imgS S.pl l).length ≤ S.Q.length := fun l => by
  unfold imgS
  split
  ·
   unfold imS; rw [StM.pl_Q, List.length_map, List.length_map]; omega
  ·
   simp
 rcases h with h | h
 ·
  have e : imgS S.pl v = [] := by unfold imgS; rw [if_neg h]
  have := im w
  rw [e, List.length_nil]; omega
 ·
  have e : imgS S.pl w = [] := by unfold imgS; rw [if_neg h]
  have := im v
  rw [e, List.length_nil]; omega
end Go.Proofs.YtdhhbjmkdmbffaaGreatDoor

/- The walk of LinearAdds. -/
namespace Go.Proofs.YtdhhbjmkdmbffaaGreatDoor
open Go.RowKit Num
set_option maxRecDepth 20000
set_option linter.unusedVariables false
end Go.Proofs.YtdhhbjmkdmbffaaGreatDoor
