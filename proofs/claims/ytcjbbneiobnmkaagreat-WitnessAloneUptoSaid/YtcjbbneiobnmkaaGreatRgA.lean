import Derived.Test.YtcjbbneiobnmkaaGreatR3d
import Derived.Test.YtcjbbneiobnmkaaGreatPwC
import Derived.Test.YtcjbbneiobnmkaaGreatPwF
/- The reference of layer 13: Check, has, Has, Mul, Exp. -/
namespace Go.Proofs.YtcjbbneiobnmkaaGreat
open Go.RowKit Num
set_option maxRecDepth 20000
set_option linter.unusedVariables false
theorem lit8 : (⟨#[8]⟩ : ByteArray) = enc 8 := by decide +kernel
theorem lit1 : (⟨#[1]⟩ : ByteArray) = enc 1 := by decide +kernel
theorem r13Check_three (M O : ByteArray) (w : World) (h : ¬ (validB M = true ∧ validB O = true)) :
    Calls Tryz.prog 17 #[.agg #[.string M, .string O]] w fun e w' => e = .returned (.int .i64 3) ∧ Below w.heap.size w w' := by
  have hb := (Below.refl _ w).alloc (Nat.le_refl _) (.cells #[.string M, .string O] 24)
  cases hM : validB M
  · have HM := Lib.hid hM
    clear hM h
    go_enter Tryz.func17, Tryz.ntmps17
    go_wp2_with fail
    refine (refValid_any M _).mono ?_; rw [HM.out]; rintro e w1 ⟨rfl, rfl⟩
    go_wp2_with fail
    go_ret
    exact ⟨rfl, hb⟩
  · have hO : validB O = false := by simpa [hM] using h
    have HM := Lib.hid hM
    have HO := Lib.hid hO
    clear hM h hO
    go_enter Tryz.func17, Tryz.ntmps17
    go_wp2_with fail
    refine (refValid_any M _).mono ?_; rw [HM.out]; rintro e w1 ⟨rfl, rfl⟩
    go_wp2_with fail
    refine (refValid_any O _).mono ?_; rw [HO.out]; rintro e w1 ⟨rfl, rfl⟩
    go_wp2_with fail
    go_ret
    exact ⟨rfl, hb⟩
theorem r13Check_zero (w : World) :
    Calls Tryz.prog 17 #[.agg #[.string ⟨#[]⟩, .string ⟨#[]⟩]] w fun e w' => e = .returned (.int .i64 13) ∧ Below w.heap.size w w' := by
  have hb := (Below.refl _ w).alloc (Nat.le_refl _) (.cells #[.string ⟨#[]⟩, .string ⟨#[]⟩] 24)
  have hG := GB.new w ⟨#[]⟩ ⟨#[]⟩
  have HV := Lib.hid (show validB ⟨#[]⟩ = true by decide +kernel)
  go_enter Tryz.func17, Tryz.ntmps17
  go_wp2_with fail
  generalize w.alloc _ = w0 at hb hG ⊢
  have c0 := hG.c0
  have c1 := hG.c1
  refine (refValid_any _ _).mono ?_; rw [HV.out]; rintro e w1 ⟨rfl, rfl⟩
  go_wp2_with fail
  refine (refValid_any _ _).mono ?_; rw [HV.out]; rintro e w1 ⟨rfl, rfl⟩
  go_wp2_with fail
  go_ret
  exact ⟨rfl, hb⟩
set_option maxHeartbeats 4000000 in
theorem r13Check_unit (M : ByteArray) (m : Nat) (w : World) (hM : IsN M m) (h0 : 0 < m) (E : Int) (hE : E = if m % 2 = 1 ∧ 8 < m then 0 else 13) :
    Calls Tryz.prog 17 #[.agg #[.string M, .string ⟨#[]⟩]] w fun e w' => e = .returned (.int .i64 E) ∧ Below w.heap.size w w' := by
  have hb := (Below.refl _ w).alloc (Nat.le_refl _) (.cells #[.string M, .string ⟨#[]⟩] 24)
  have hG := GB.new w M ⟨#[]⟩
  have HM := Lib.hid hM
  have HV := Lib.hid (show validB ⟨#[]⟩ = true by decide +kernel)
  obtain ⟨n1, n2⟩ := tl_ne (hM.pos h0)
  have hp := hM.pos h0
  have hsm := hM.small
  obtain ⟨p, hpp⟩ : ∃ p, M.size = p + 1 := ⟨M.size - 1, by omega⟩
  have x1 : wrap64 ((M.size : Int) - 1) = (p : Int) := by rw [hpp]; unfold wrap64; omega
  have x2 : (p : Int) < (M.size : Int) := by omega
  have x3 : p < M.size := by omega
  have x4 : (0 : Int) ≤ (p : Int) := by omega
  have hd : M[p].toNat = m % 256 := by
    have := nv_digit M 0 (by omega)
    rw [hM.nv] at this
    have e : M.size - 1 - 0 = p := by omega
    simp only [e] at this
    rw [this]; simp
  by_cases ho : m % 2 = 1
  rotate_left
  · have y1 : ((M[p].toNat : Int) % 2 == 0) = true := by rw [hd]; simp; omega
    have y2 : (M[p].toNat : Int) % 2 = 0 := by rw [hd]; omega
    have HE := Lib.hid (hE.trans (if_neg fun h => ho h.1))
    clear hM h0 hE hp hsm hpp hd ho
    go_enter Tryz.func17, Tryz.ntmps17
    go_wp2_with fail
    generalize w.alloc _ = w0 at hb hG ⊢
    have c0 := hG.c0
    have c1 := hG.c1
    refine (refValid_any _ _).mono ?_; rw [HM.out.valid]; rintro e w1 ⟨rfl, rfl⟩
    go_wp2_with fail
    refine (refValid_any _ _).mono ?_; rw [HV.out]; rintro e w1 ⟨rfl, rfl⟩
    go_wp2_with fail
    go_ret
    exact ⟨ret_int HE.out.symm, hb⟩
  have y1 : ((M[p].toNat : Int) % 2 == 0) = false := by rw [hd]; simp; omega
  have y2 : ¬ ((M[p].toNat : Int) % 2 = 0) := by rw [hd]; omega
  have HORD := Lib.hid (fun w => refOrder_any M ⟨#[8]⟩ m 8 w hM.eq lit8 (by omega) (by decide))
  have hE8 : E = if 8 < m then 0 else 13 := by rw [hE]; simp [ho]
  clear hE h0 hp hsm hpp hd ho
  rcases ncmp3 m 8 with ⟨h8, u2⟩ | ⟨h8, u2⟩ | ⟨h8, u2⟩
  all_goals
    have HE := Lib.hid (hE8.trans (by first | exact if_pos h8 | exact if_neg (by omega)))
    rw [u2] at HORD
    clear hE8 h8 u2 hM
    go_enter Tryz.func17, Tryz.ntmps17
    go_wp2_with fail
    generalize w.alloc _ = w0 at hb hG ⊢
    have c0 := hG.c0
    have c1 := hG.c1
    refine (refValid_any _ _).mono ?_; rw [HM.out.valid]; rintro e w1 ⟨rfl, rfl⟩
    go_wp2_with fail
    refine (refValid_any _ _).mono ?_; rw [HV.out]; rintro e w1 ⟨rfl, rfl⟩
    go_wp2_with fail
    refine (HORD.out _).mono ?_; rintro e w2 ⟨rfl, b2⟩
    go_wp2_with fail
    go_ret
    exact ⟨ret_int HE.out.symm, hb.trans (b2.mono hb.size)⟩
theorem one_of {s : ByteArray} (h : IsN s 1) : s = ⟨#[1]⟩ := by rw [h.eq]; decide +kernel
theorem not_one {s : ByteArray} {a : Nat} (h : IsN s a) (h1 : a ≠ 1) : (s.toList == [1]) = false ∧ (s.toList = [1] → False) := by
  rw [h.eq, ← one_list]; exact enc_ne h1
set_option maxHeartbeats 4000000 in
theorem r13Check_low (M O : ByteArray) (m o : Nat) (w : World) (hM : IsN M m) (hO : IsN O o) (h0 : 0 < o) (h : m < 2 ∨ o = 1) :
    Calls Tryz.prog 17 #[.agg #[.string M, .string O]] w fun e w' => e = .returned (.int .i64 13) ∧ Below w.heap.size w w' := by
  have hb := (Below.refl _ w).alloc (Nat.le_refl _) (.cells #[.string M, .string O] 24)
  have hG := GB.new w M O
  have HM := Lib.hid hM.valid
  have HO := Lib.hid hO.valid
  obtain ⟨n1, n2⟩ := tl_ne (hO.pos h0)
  by_cases m0 : m = 0
  · have es : M = ⟨#[]⟩ := by rw [m0] at hM; exact empty_of hM
    subst es
    clear h m0 hM hO
    go_enter Tryz.func17, Tryz.ntmps17
    go_wp2_with fail
    generalize w.alloc _ = w0 at hb hG ⊢
    have c0 := hG.c0
    have c1 := hG.c1
    refine (refValid_any _ _).mono ?_; rw [HM.out]; rintro e w1 ⟨rfl, rfl⟩
    go_wp2_with fail
    refine (refValid_any _ _).mono ?_; rw [HO.out]; rintro e w1 ⟨rfl, rfl⟩
    go_wp2_with fail
    go_ret
    exact ⟨rfl, hb⟩
  obtain ⟨n3, n4⟩ := tl_ne (hM.pos (by omega))
  by_cases m1 : m = 1
  · have es : M = ⟨#[1]⟩ := by rw [m1] at hM; exact one_of hM
    subst es
    have q1 : ((⟨#[1]⟩ : ByteArray).toList == [1]) = true := by decide +kernel
    have q2 : (⟨#[1]⟩ : ByteArray).toList = [1] := by decide +kernel
    clear h m0 m1 hM hO
    go_enter Tryz.func17, Tryz.ntmps17
    go_wp2_with fail
    generalize w.alloc _ = w0 at hb hG ⊢
    have c0 := hG.c0
    have c1 := hG.c1
    refine (refValid_any _ _).mono ?_; rw [HM.out]; rintro e w1 ⟨rfl, rfl⟩
    go_wp2_with fail
    refine (refValid_any _ _).mono ?_; rw [HO.out]; rintro e w1 ⟨rfl, rfl⟩
    go_wp2_with fail
    go_ret
    exact ⟨rfl, hb⟩
  obtain ⟨n5, n6⟩ := not_one hM m1
  have es : O = ⟨#[1]⟩ := by rw [show o = 1 by omega] at hO; exact one_of hO
  subst es
  have q1 : ((⟨#[1]⟩ : ByteArray).toList == [1]) = true := by decide +kernel
  have q2 : (⟨#[1]⟩ : ByteArray).toList = [1] := by decide +kernel
  clear h m0 m1 hM hO
  go_enter Tryz.func17, Tryz.ntmps17
  go_wp2_with fail
  generalize w.alloc _ = w0 at hb hG ⊢
  have c0 := hG.c0
  have c1 := hG.c1
  refine (refValid_any _ _).mono ?_; rw [HM.out]; rintro e w1 ⟨rfl, rfl⟩
  go_wp2_with fail
  refine (refValid_any _ _).mono ?_; rw [HO.out]; rintro e w1 ⟨rfl, rfl⟩
  go_wp2_with fail
  go_ret
  exact ⟨rfl, hb⟩
set_option maxHeartbeats 4000000 in
theorem r13Check_div (M O : ByteArray) (m o : Nat) (w : World) (hM : IsN M m) (hO : IsN O o) (h2 : 2 ≤ m) (h3 : 2 ≤ o) (E : Int) (hE : E = if (m - 1) % o = 0 then 0 else 13) :
    Calls Tryz.prog 17 #[.agg #[.string M, .string O]] w fun e w' => e = .returned (.int .i64 E) ∧ Below w.heap.size w w' := by
  have hb := (Below.refl _ w).alloc (Nat.le_refl _) (.cells #[.string M, .string O] 24)
  have hG := GB.new w M O
  have HM := Lib.hid hM.valid
  have HO := Lib.hid hO.valid
  obtain ⟨n1, n2⟩ := tl_ne (hO.pos (by omega))
  obtain ⟨n3, n4⟩ := tl_ne (hM.pos (by omega))
  obtain ⟨n5, n6⟩ := not_one hM (by omega)
  obtain ⟨n7, n8⟩ := not_one hO (by omega)
  have l1 := hM.small
  have l2 := hO.small
  have HMI := Lib.hid (fun w => refMinus_any M ⟨#[1]⟩ m 1 w hM.eq lit1 (by omega) (by omega))
  have hml : blen (m - 1) ≤ 128 := Nat.le_trans (blen_mono (by omega)) hM.le
  have HOV := Lib.hid (fun w => refOver_any (enc (m - 1)) O (m - 1) o w rfl hO.eq (by omega) (by rw [size_enc]; omega) (by omega))
  obtain ⟨q, hq⟩ : ∃ q, (m - 1) / o = q := ⟨_, rfl⟩
  obtain ⟨r, hr⟩ : ∃ r, (m - 1) % o = r := ⟨_, rfl⟩
  obtain ⟨m1, hm1⟩ : ∃ r, m - 1 = r := ⟨_, rfl⟩
  rw [hq, hr, hm1] at HOV
  rw [hr] at hE
  rw [hm1] at HMI
  clear hM hO h2 h3 hml hq hr hm1 l1 l2
  go_enter Tryz.func17, Tryz.ntmps17
  go_wp2_with fail
  generalize w.alloc _ = w0 at hb hG ⊢
  have c0 := hG.c0
  have c1 := hG.c1
  refine (refValid_any _ _).mono ?_; rw [HM.out]; rintro e w1 ⟨rfl, rfl⟩
  go_wp2_with fail
  refine (refValid_any _ _).mono ?_; rw [HO.out]; rintro e w1 ⟨rfl, rfl⟩
  go_wp2_with fail
  go_cut [3, 4] from 51 (fun v3 v4 wc => v3 = .string (enc q) ∧ v4 = .string (enc r) ∧ Below w.heap.size w wc)
  case first =>
    go_region_held3 (fun w' => w'.cell? ⟨w.heap.size, 0, none⟩ = some (.string M) ∧ w'.cell? ⟨w.heap.size, 1, none⟩ = some (.string O) ∧ GB w' w.heap.size M O ∧ Below w.heap.size w w')
      (first | exact ⟨c0, c1, hG, hb.drew⟩ | assumption | (refine keepG ?_ bn; assumption))
      (first
        | (go_at_call 54; (with_reducible refine (HMI.out _).mono ?_); rintro e wn ⟨rfl, bn⟩)
        | (go_at_call 53; (with_reducible refine (HOV.out _).mono ?_); rintro e wn ⟨rfl, bn⟩))
    all_goals (go_split_ands; go_wp2_with fail; go_meet; exact ⟨rfl, rfl, by assumption⟩)
  case rest =>
    clear hb hG c0 c1
    obtain ⟨rfl, rfl, hb⟩ := hcut
    by_cases h0 : r = 0
    · have HE := Lib.hid (hE.trans (if_pos h0))
      subst h0
      clear hE
      rw [enc_zero]
      go_wp2_with fail
      go_ret
      exact ⟨ret_int HE.out.symm, hb⟩
    · obtain ⟨k1, k2⟩ := And.intro (notEmpty_enc (b := r) (by omega)) (toList_enc_nil (b := r) (by omega))
      have HE := Lib.hid (hE.trans (if_neg h0))
      clear h0 hE
      go_wp2_with fail
      go_ret
      exact ⟨ret_int HE.out.symm, hb⟩
theorem r13Check_any (M O : ByteArray) (w : World) :
    Calls Tryz.prog 17 #[.agg #[.string M, .string O]] w fun e w' => e = .returned (.int .i64 (gE M O)) ∧ Below w.heap.size w w' := by
  unfold gE
  by_cases h : validB M = true ∧ validB O = true
  · have hM := isN_of_valid h.1
    have hO := isN_of_valid h.2
    rw [if_pos h]
    clear h
    by_cases h0 : nv O = 0
    · rw [if_pos h0]
      have eO : O = ⟨#[]⟩ := by rw [h0] at hO; exact empty_of hO
      subst eO
      by_cases h1 : nv M = 0
      · have eM : M = ⟨#[]⟩ := by rw [h1] at hM; exact empty_of hM
        subst eM
        exact r13Check_zero w
      · exact r13Check_unit M (nv M) w hM (by omega) _ rfl
    · rw [if_neg h0]
      by_cases h1 : nv M < 2 ∨ nv O = 1
      · rw [if_neg fun h => by omega]
        exact r13Check_low M O (nv M) (nv O) w hM hO (by omega) h1
      · refine r13Check_div M O (nv M) (nv O) w hM hO (by omega) (by omega) _ ?_
        by_cases h4 : (nv M - 1) % nv O = 0
        · rw [if_pos ⟨by omega, by omega, h4⟩, if_pos h4]
        · rw [if_neg fun h => h4 h.2.2, if_neg h4]
  · rw [if_neg h]
    exact r13Check_three M O w h
theorem r9form_yes (M O : ByteArray) (w : World) (hM : validB M = true) (hO : validB O = true) :
    Calls Tryz.prog 127 #[.agg #[.string M, .string O]] w fun e w' => e = .returned (.bool true) ∧ Below w.heap.size w w' := by
  have hb := (Below.refl _ w).alloc (Nat.le_refl _) (.cells #[.string M, .string O] 24)
  have HM := Lib.hid hM
  have HO := Lib.hid hO
  clear hM hO
  go_enter Tryz.func127, Tryz.ntmps127
  go_wp2_with fail
  refine (refValid_any _ _).mono ?_; rw [HM.out]; rintro e w1 ⟨rfl, rfl⟩
  go_wp2_with fail
  refine (refValid_any _ _).mono ?_; rw [HO.out]; rintro e w1 ⟨rfl, rfl⟩
  go_wp2_with fail
  go_ret
  exact ⟨rfl, hb⟩
set_option maxHeartbeats 4000000 in
theorem r9Has_any (M O s : ByteArray) (m o x : Nat) (w : World) (hM : IsN M m) (hO : IsN O o) (h2 : 2 ≤ m) (h0 : 0 < o) (hs : IsN s x) (h64 : M.size ≤ 64) :
    Calls Tryz.prog 98 #[.agg #[.string M, .string O], .string s] w fun e w' => e = .returned (.bool (elN m o x)) ∧ Below w.heap.size w w' := by
  have hb := (Below.refl _ w).alloc (Nat.le_refl _) (.cells #[.string M, .string O] 24)
  have hG := GB.new w M O
  have HO := Lib.hid hO
  have HM := Lib.hid hM
  have HS := Lib.hid hs
  obtain ⟨n1, n2⟩ := tl_ne (hO.pos h0)
  by_cases x0 : x = 0
  · have HR := Lib.hid (show elN m o x = false by unfold elN; rw [decide_eq_false (by simp [x0])]; rfl)
    have es : s = ⟨#[]⟩ := by rw [x0] at hs; exact empty_of hs
    subst es
    clear x0 hs hM hO h0
    go_enter Tryz.func98, Tryz.ntmps98
    go_wp2_with fail
    generalize w.alloc _ = w0 at hb hG ⊢
    have c0 := hG.c0
    have c1 := hG.c1
    go_wp2_with fail
    refine (r9form_yes M O _ HM.out.valid HO.out.valid).mono ?_; rintro e w1 ⟨rfl, b1⟩
    have hG1 := hG.below b1 hG.lt
    replace hb := hb.trans (b1.mono hb.size)
    clear c0 c1
    have c0 := hG1.c0
    have c1 := hG1.c1
    go_wp2_with fail
    refine (refValid_any _ _).mono ?_; rw [HS.out.valid]; rintro e w1 ⟨rfl, rfl⟩
    go_wp2_with fail
    go_ret
    exact ⟨ret_bool HR.out.symm, hb⟩
  obtain ⟨n3, n4⟩ := tl_ne (hs.pos (by omega))
  have HORD := Lib.hid (fun w => refOrder_any s M x m w hs.eq hM.eq (by have := hs.le; have := hs.size; omega) (by omega))
  by_cases xm : m ≤ x
  · have HR := Lib.hid (show elN m o x = false by unfold elN; rw [decide_eq_false (by omega)]; rfl)
    have u1 : decide (0 ≤ ncmp x m) = true := by rw [nge_dec]; exact decide_eq_true xm
    clear x0 hs hM hO h0 xm
    go_enter Tryz.func98, Tryz.ntmps98
    go_wp2_with fail
    generalize w.alloc _ = w0 at hb hG ⊢
    have c0 := hG.c0
    have c1 := hG.c1
    go_wp2_with fail
    refine (r9form_yes M O _ HM.out.valid HO.out.valid).mono ?_; rintro e w1 ⟨rfl, b1⟩
    have hG1 := hG.below b1 hG.lt
    replace hb := hb.trans (b1.mono hb.size)
    clear c0 c1
    have c0 := hG1.c0
    have c1 := hG1.c1
    go_wp2_with fail
    refine (refValid_any _ _).mono ?_; rw [HS.out.valid]; rintro e w1 ⟨rfl, rfl⟩
    go_wp2_with fail
    refine (HORD.out _).mono ?_; rintro e w2 ⟨rfl, b2⟩
    go_wp2_with fail
    go_ret
    exact ⟨ret_bool HR.out.symm, hb.trans (b2.mono hb.size)⟩
  have u1 : decide (0 ≤ ncmp x m) = false := by rw [nge_dec]; exact decide_eq_false xm
  have hr : ∀ y, x ^ o % m = y → elN m o x = decide (y = 1) := by
    intro y hy; subst hy; unfold elN; rw [decide_eq_true (show x ≠ 0 ∧ x < m by omega), Bool.true_and]; exact decide_eq_decide.2 (by rw [if_neg (by omega)])
  have hx := refMExp_any s O M
  rw [chk21 hs hO hM (by omega), hs.nv, hO.nv, hM.nv, mo_zero] at hx
  have HX := Lib.hid (fun w => hx w h64)
  obtain ⟨y, hy⟩ : ∃ y, x ^ o % m = y := ⟨_, rfl⟩
  have HR := Lib.hid (hr y hy)
  rw [hy] at HX
  clear x0 hs hM hO h0 xm hr hx hy
  go_enter Tryz.func98, Tryz.ntmps98
  go_wp2_with fail
  generalize w.alloc _ = w0 at hb hG ⊢
  have c0 := hG.c0
  have c1 := hG.c1
  go_wp2_with fail
  refine (r9form_yes M O _ HM.out.valid HO.out.valid).mono ?_; rintro e w1 ⟨rfl, b1⟩
  have hG1 := hG.below b1 hG.lt
  replace hb := hb.trans (b1.mono hb.size)
  clear b1 hG c0 c1
  have c0 := hG1.c0
  have c1 := hG1.c1
  go_wp2_with fail
  refine (refValid_any _ _).mono ?_; rw [HS.out.valid]; rintro e w1 ⟨rfl, rfl⟩
  go_wp2_with fail
  refine (HORD.out _).mono ?_; rintro e w2 ⟨rfl, b2⟩
  have hG2 := hG1.below b2 hG1.lt
  replace hb := hb.trans (b2.mono hb.size)
  clear b2 hG1 c0 c1
  have c0 := hG2.c0
  have c1 := hG2.c1
  go_wp2_with fail
  refine (HX.out _).mono ?_; rintro e w3 ⟨rfl, b3⟩
  replace hb := hb.trans (b3.mono hb.size)
  clear b3 hG2 c0 c1
  by_cases y1 : y = 1
  · subst y1
    have e1 : ((enc 1).toList == [1]) = true := by decide +kernel
    have e2 := one_list
    go_wp2_with fail
    go_ret
    exact ⟨ret_bool (by rw [HR.out]; rfl), hb⟩
  · obtain ⟨e1, e2⟩ := enc_ne y1
    rw [one_list] at e1 e2
    replace HR := Lib.hid (HR.out.trans (decide_eq_false y1))
    clear y1
    go_wp2_with fail
    go_ret
    exact ⟨ret_bool HR.out.symm, hb⟩
set_option maxHeartbeats 4000000 in
theorem r13has_any (M O s : ByteArray) (w : World) (h : gE M O = 0) (hv : validB s = true) (h64 : M.size ≤ 64) :
    Calls Tryz.prog 56 #[.agg #[.string M, .string O], .string s] w fun e w' => e = .returned (.bool (elN (nv M) (nv O) (nv s))) ∧ Below w.heap.size w w' := by
  obtain ⟨hM, hO, h2, h3⟩ := gE_ok h
  have hs := isN_of_valid hv
  have hb := (Below.refl _ w).alloc (Nat.le_refl _) (.cells #[.string M, .string O] 24)
  have hG := GB.new w M O
  by_cases h0 : nv O = 0
  · have eO : O = ⟨#[]⟩ := by rw [h0] at hO; exact empty_of hO
    subst eO
    rw [h0]
    obtain ⟨x, hx⟩ : ∃ x, nv s = x := ⟨_, rfl⟩
    obtain ⟨m, hm⟩ : ∃ x, nv M = x := ⟨_, rfl⟩
    rw [hx] at hs ⊢
    rw [hm] at hM h2 ⊢
    clear hx hm h h3 hO h0
    by_cases x0 : x = 0
    · have HR := Lib.hid (show elN m 0 x = false by unfold elN; rw [decide_eq_false (by simp [x0])]; rfl)
      have es : s = ⟨#[]⟩ := by rw [x0] at hs; exact empty_of hs
      subst es
      clear x0 hs hM
      go_enter Tryz.func56, Tryz.ntmps56
      go_wp2_with fail
      generalize w.alloc _ = w0 at hb hG ⊢
      have c0 := hG.c0
      have c1 := hG.c1
      go_wp2_with fail
      go_ret
      exact ⟨ret_bool HR.out.symm, hb⟩
    obtain ⟨n3, n4⟩ := tl_ne (hs.pos (by omega))
    have HORD := Lib.hid (fun w => refOrder_any s M x m w hs.eq hM.eq (by have := hs.le; have := hs.size; omega) (by omega))
    have HCOM := Lib.hid (fun w => refCommon_any s M x m w hs hM)
    by_cases xm : m ≤ x
    · have HR := Lib.hid (show elN m 0 x = false by unfold elN; rw [decide_eq_false (by omega)]; rfl)
      have u1 : decide (ncmp x m < 0) = false := by rw [nlt_dec]; exact decide_eq_false (by omega)
      clear x0 hs hM xm
      go_enter Tryz.func56, Tryz.ntmps56
      go_wp2_with fail
      generalize w.alloc _ = w0 at hb hG ⊢
      have c0 := hG.c0
      have c1 := hG.c1
      go_wp2_with fail
      refine (HORD.out _).mono ?_; rintro e w2 ⟨rfl, b2⟩
      go_wp2_with fail
      go_ret
      exact ⟨ret_bool HR.out.symm, hb.trans (b2.mono hb.size)⟩
    have u1 : decide (ncmp x m < 0) = true := by rw [nlt_dec]; exact decide_eq_true (by omega)
    have hr : ∀ y, Nat.gcd x m = y → elN m 0 x = decide (y = 1) := by
      intro y hy; subst hy; unfold elN; rw [decide_eq_true (show x ≠ 0 ∧ x < m by omega), Bool.true_and]; exact decide_eq_decide.2 (by rw [if_pos rfl])
    obtain ⟨y, hy⟩ : ∃ y, Nat.gcd x m = y := ⟨_, rfl⟩
    have HR := Lib.hid (hr y hy)
    rw [hy] at HCOM
    clear x0 hs hM xm hr hy
    go_enter Tryz.func56, Tryz.ntmps56
    go_wp2_with fail
    generalize w.alloc _ = w0 at hb hG ⊢
    have c0 := hG.c0
    have c1 := hG.c1
    go_wp2_with fail
    refine (HORD.out _).mono ?_; rintro e w2 ⟨rfl, b2⟩
    have hG2 := hG.below b2 hG.lt
    replace hb := hb.trans (b2.mono hb.size)
    clear b2 hG c0 c1
    have c0 := hG2.c0
    have c1 := hG2.c1
    go_wp2_with fail
    refine (HCOM.out _).mono ?_; rintro e w3 ⟨rfl, b3⟩
    replace hb := hb.trans (b3.mono hb.size)
    clear b3 hG2 c0 c1
    by_cases y1 : y = 1
    · subst y1
      have e1 : ((enc 1).toList == [1]) = true := by decide +kernel
      have e2 := one_list
      go_wp2_with fail
      go_ret
      exact ⟨ret_bool (by rw [HR.out]; rfl), hb⟩
    · obtain ⟨e1, e2⟩ := enc_ne y1
      rw [one_list] at e1 e2
      replace HR := Lib.hid (HR.out.trans (decide_eq_false y1))
      clear y1
      go_wp2_with fail
      go_ret
      exact ⟨ret_bool HR.out.symm, hb⟩
  · have HH := Lib.hid (fun w => r9Has_any M O s (nv M) (nv O) (nv s) w hM hO h2 (by omega) hs h64)
    obtain ⟨n1, n2⟩ := tl_ne (hO.pos (by omega))
    clear h hM hO h2 h3 h0 hs
    go_enter Tryz.func56, Tryz.ntmps56
    go_wp2_with fail
    generalize w.alloc _ = w0 at hb hG ⊢
    have c0 := hG.c0
    have c1 := hG.c1
    go_wp2_with fail
    refine (HH.out _).mono ?_; rintro e w1 ⟨rfl, b1⟩
    go_wp2_with fail
    go_ret
    exact ⟨rfl, hb.trans (b1.mono hb.size)⟩
end Go.Proofs.YtcjbbneiobnmkaaGreat

/- The reference of layer 13: Has, raw, Mul, Exp. -/
namespace Go.Proofs.YtcjbbneiobnmkaaGreat
open Go.RowKit Num
set_option maxRecDepth 20000
set_option linter.unusedVariables false
theorem pwS_el {M O s t : ByteArray} {ng : Bool} (h : gE M O = 0) (hv : validB s = true) (he : elN (nv M) (nv O) (nv s) = true) (ht : ivB (ng, t) = true) :
    pwE s ng t M = 0 ∧ pwS s ng t M = enc (sb (nv M) (nv s) ng ^ nv t % nv M) := by
  obtain ⟨hM, hO, h2, h3⟩ := gE_ok h
  have hs := isN_of_valid hv
  unfold ivB at ht
  rw [Bool.and_eq_true, Bool.not_eq_true'] at ht
  have h1 : pwE s ng t M = 0 := by
    unfold pwE
    rw [if_pos ht]
    cases ng
    · rw [if_neg (by decide)]; exact chk11 hs hM (by omega)
    · rw [if_pos rfl]
      unfold ivE
      rw [if_pos (chk11 hs hM (by omega)), if_pos (el_unit he)]
  refine ⟨h1, ?_⟩
  rw [pwS, h1, mo_zero]
  rfl
set_option maxHeartbeats 1000000 in
theorem r13raw_any (M O s : ByteArray) (ng : Bool) (t : ByteArray) (w : World) (h64 : M.size ≤ 64) :
    Calls Tryz.prog 58 #[.agg #[.string M, .string O], .string s, .agg #[.bool ng, .string t]] w fun e w' => e = .returned (.string (pwS s ng t M)) ∧ Below w.heap.size w w' := by
  have hb := ((Below.refl _ w).alloc (Nat.le_refl _) (.cells #[.string M, .string O] 24)).alloc (by simp) (.cells #[.bool ng, .string t] 32)
  have hG := (GB.new w M O).alloc (.cells #[.bool ng, .string t] 32)
  have hI := IB.new (w.alloc (.cells #[.string M, .string O] 24)) ng t
  rw [World.size_alloc] at hI
  go_enter Tryz.func58, Tryz.ntmps58
  go_wp2_with fail
  generalize World.alloc _ _ = w0 at hb hG hI ⊢
  have c0 := hG.c0
  have c1 := hG.c1
  have d0 := hI.c0
  have d1 := hI.c1
  go_wp2_with fail
  refine (refPower_any s ng t M _ h64).mono ?_; rintro e w1 ⟨rfl, b1⟩
  go_wp2_with fail
  go_ret
  exact ⟨rfl, hb.trans (b1.mono hb.size)⟩
set_option maxHeartbeats 1000000 in
theorem r13Has_any (M O s : ByteArray) (w : World) (h64 : M.size ≤ 64) :
    Calls Tryz.prog 19 #[.agg #[.string M, .string O], .string s] w fun e w' => e = .returned (.bool (hasB M O s)) ∧ Below w.heap.size w w' := by
  have hb := (Below.refl _ w).alloc (Nat.le_refl _) (.cells #[.string M, .string O] 24)
  have hG := GB.new w M O
  rcases gE_cases M O with h | h | h
  · cases hv : validB s
    · have hr : hasB M O s = false := by unfold hasB; rw [hv, Bool.false_and, Bool.and_false]
      rw [hr]
      have HE := Lib.hid h
      have HV := Lib.hid hv
      clear hr h hv
      go_enter Tryz.func19, Tryz.ntmps19
      go_wp2_with fail
      generalize w.alloc _ = w0 at hb hG ⊢
      have c0 := hG.c0
      have c1 := hG.c1
      go_wp2_with fail
      refine (r13Check_any M O _).mono ?_; rw [HE.out]; rintro e w1 ⟨rfl, b1⟩
      go_wp2_with fail
      refine (refValid_any s _).mono ?_; rw [HV.out]; rintro e w2 ⟨rfl, rfl⟩
      go_wp2_with fail
      go_ret
      exact ⟨rfl, hb.trans (b1.mono hb.size)⟩
    · have hr : hasB M O s = elN (nv M) (nv O) (nv s) := by unfold hasB; rw [decide_eq_true h, Bool.true_and, hv, Bool.true_and]
      rw [hr]
      have HH := Lib.hid (fun w => r13has_any M O s w h hv h64)
      have HE := Lib.hid h
      have HV := Lib.hid hv
      clear hr h hv
      go_enter Tryz.func19, Tryz.ntmps19
      go_wp2_with fail
      generalize w.alloc _ = w0 at hb hG ⊢
      have c0 := hG.c0
      have c1 := hG.c1
      go_wp2_with fail
      refine (r13Check_any M O _).mono ?_; rw [HE.out]; rintro e w1 ⟨rfl, b1⟩
      have hG1 := hG.below b1 hG.lt
      replace hb := hb.trans (b1.mono hb.size)
      clear b1 hG c0 c1
      have c0 := hG1.c0
      have c1 := hG1.c1
      go_wp2_with fail
      refine (refValid_any s _).mono ?_; rw [HV.out]; rintro e w2 ⟨rfl, rfl⟩
      go_wp2_with fail
      refine (HH.out _).mono ?_; rintro e w2 ⟨rfl, b2⟩
      go_wp2_with fail
      go_ret
      exact ⟨rfl, hb.trans (b2.mono hb.size)⟩
  all_goals
    have hr : hasB M O s = false := by unfold hasB; rw [h]; rfl
    rw [hr]
    have HE := Lib.hid h
    clear hr h
    go_enter Tryz.func19, Tryz.ntmps19
    go_wp2_with fail
    generalize w.alloc _ = w0 at hb hG ⊢
    have c0 := hG.c0
    have c1 := hG.c1
    go_wp2_with fail
    refine (r13Check_any M O _).mono ?_; rw [HE.out]; rintro e w1 ⟨rfl, b1⟩
    go_wp2_with fail
    go_ret
    exact ⟨rfl, hb.trans (b1.mono hb.size)⟩
set_option maxHeartbeats 4000000 in
theorem r13Mul_any (M O a b : ByteArray) (w : World) (h64 : M.size ≤ 64) :
    Calls Tryz.prog 33 #[.agg #[.string M, .string O], .string a, .string b] w fun e w' => e = .returned (.tuple #[.string (gmS M O a b), .int .i64 (gmE M O a b)]) ∧ Below w.heap.size w w' := by
  have hb := (Below.refl _ w).alloc (Nat.le_refl _) (.cells #[.string M, .string O] 24)
  have hG := GB.new w M O
  by_cases hv : ([a, b] : List ByteArray).all validB = true
  · have hva : validB a = true := List.all_eq_true.1 hv a (by simp)
    have hvb : validB b = true := List.all_eq_true.1 hv b (by simp)
    have HA := Lib.hid hva
    have HB := Lib.hid hvb
    rcases gE_cases M O with h | h | h
    rotate_left
    iterate 2
      · have hr : gmE M O a b = gE M O := ck_group ⟨hv, rfl⟩ (by rw [h]; decide)
        rw [gmS, hr, h, mo_bad (by decide)]
        have HE := Lib.hid h
        clear hr h hv hva hvb
        go_enter Tryz.func33, Tryz.ntmps33
        go_wp2_with fail
        generalize w.alloc _ = w0 at hb hG ⊢
        have c0 := hG.c0
        have c1 := hG.c1
        refine (refValid_any _ _).mono ?_; rw [HA.out]; rintro e w1 ⟨rfl, rfl⟩
        go_wp2_with fail
        refine (refValid_any _ _).mono ?_; rw [HB.out]; rintro e w1 ⟨rfl, rfl⟩
        go_wp2_with fail
        refine (r13Check_any M O _).mono ?_; rw [HE.out]; rintro e w1 ⟨rfl, b1⟩
        go_wp2_with fail
        go_ret2
        exact ⟨rfl, hb.trans (b1.mono hb.size)⟩
    have hl : gmE M O a b = if [a, b].all (fun x => elN (nv M) (nv O) (nv x)) = true then 0 else 13 := ck_last ⟨hv, rfl⟩ h
    have HE := Lib.hid h
    have HHA := Lib.hid (fun w => r13has_any M O a w h hva h64)
    have HHB := Lib.hid (fun w => r13has_any M O b w h hvb h64)
    obtain ⟨hM, _, h2, _⟩ := gE_ok h
    cases hea : elN (nv M) (nv O) (nv a)
    · have hr : gmE M O a b = 13 := by rw [hl, if_neg (by simp [hea])]
      rw [gmS, hr, mo_bad (by decide)]
      rw [hea] at HHA
      clear hr hl h hv hva hvb HHB hM h2 hea
      go_enter Tryz.func33, Tryz.ntmps33
      go_wp2_with fail
      generalize w.alloc _ = w0 at hb hG ⊢
      have c0 := hG.c0
      have c1 := hG.c1
      refine (refValid_any _ _).mono ?_; rw [HA.out]; rintro e w1 ⟨rfl, rfl⟩
      go_wp2_with fail
      refine (refValid_any _ _).mono ?_; rw [HB.out]; rintro e w1 ⟨rfl, rfl⟩
      go_wp2_with fail
      refine (r13Check_any M O _).mono ?_; rw [HE.out]; rintro e w1 ⟨rfl, b1⟩
      have hG1 := hG.below b1 hG.lt
      replace hb := hb.trans (b1.mono hb.size)
      clear b1 hG c0 c1
      have c0 := hG1.c0
      have c1 := hG1.c1
      go_wp2_with fail
      refine (HHA.out _).mono ?_; rintro e w1 ⟨rfl, b1⟩
      go_wp2_with fail
      go_ret2
      exact ⟨rfl, hb.trans (b1.mono hb.size)⟩
    rw [hea] at HHA
    cases heb : elN (nv M) (nv O) (nv b)
    · have hr : gmE M O a b = 13 := by rw [hl, if_neg (by simp [heb])]
      rw [gmS, hr, mo_bad (by decide)]
      rw [heb] at HHB
      clear hr hl h hv hva hvb hM h2 hea heb
      go_enter Tryz.func33, Tryz.ntmps33
      go_wp2_with fail
      generalize w.alloc _ = w0 at hb hG ⊢
      have c0 := hG.c0
      have c1 := hG.c1
      refine (refValid_any _ _).mono ?_; rw [HA.out]; rintro e w1 ⟨rfl, rfl⟩
      go_wp2_with fail
      refine (refValid_any _ _).mono ?_; rw [HB.out]; rintro e w1 ⟨rfl, rfl⟩
      go_wp2_with fail
      refine (r13Check_any M O _).mono ?_; rw [HE.out]; rintro e w1 ⟨rfl, b1⟩
      have hG1 := hG.below b1 hG.lt
      replace hb := hb.trans (b1.mono hb.size)
      clear b1 hG c0 c1
      have c0 := hG1.c0
      have c1 := hG1.c1
      go_wp2_with fail
      refine (HHA.out _).mono ?_; rintro e w2 ⟨rfl, b2⟩
      have hG2 := hG1.below b2 hG1.lt
      replace hb := hb.trans (b2.mono hb.size)
      clear b2 hG1 c0 c1
      have c0 := hG2.c0
      have c1 := hG2.c1
      go_wp2_with fail
      refine (HHB.out _).mono ?_; rintro e w1 ⟨rfl, b1⟩
      go_wp2_with fail
      go_ret2
      exact ⟨rfl, hb.trans (b1.mono hb.size)⟩
    rw [heb] at HHB
    have hr : gmE M O a b = 0 := by rw [hl, if_pos (by simp [hea, heb])]
    have hm := refMMul_any a b M
    rw [chk21 (isN_of_valid hva) (isN_of_valid hvb) hM (by omega), mo_zero] at hm
    have HM := Lib.hid (fun w => hm w h64)
    rw [gmS, hr, mo_zero]
    clear hr hl h hv hva hvb hM h2 hea heb hm
    go_enter Tryz.func33, Tryz.ntmps33
    go_wp2_with fail
    generalize w.alloc _ = w0 at hb hG ⊢
    have c0 := hG.c0
    have c1 := hG.c1
    refine (refValid_any _ _).mono ?_; rw [HA.out]; rintro e w1 ⟨rfl, rfl⟩
    go_wp2_with fail
    refine (refValid_any _ _).mono ?_; rw [HB.out]; rintro e w1 ⟨rfl, rfl⟩
    go_wp2_with fail
    refine (r13Check_any M O _).mono ?_; rw [HE.out]; rintro e w1 ⟨rfl, b1⟩
    have hG1 := hG.below b1 hG.lt
    replace hb := hb.trans (b1.mono hb.size)
    clear b1 hG c0 c1
    have c0 := hG1.c0
    have c1 := hG1.c1
    go_wp2_with fail
    refine (HHA.out _).mono ?_; rintro e w2 ⟨rfl, b2⟩
    have hG2 := hG1.below b2 hG1.lt
    replace hb := hb.trans (b2.mono hb.size)
    clear b2 hG1 c0 c1
    have c0 := hG2.c0
    have c1 := hG2.c1
    go_wp2_with fail
    refine (HHB.out _).mono ?_; rintro e w1 ⟨rfl, b1⟩
    have hG1 := hG2.below b1 hG2.lt
    replace hb := hb.trans (b1.mono hb.size)
    clear b1 hG2 c0 c1
    have c0 := hG1.c0
    have c1 := hG1.c1
    go_wp2_with fail
    refine (HM.out _).mono ?_; rintro e w1 ⟨rfl, b1⟩
    go_wp2_with fail
    go_ret2
    exact ⟨rfl, hb.trans (b1.mono hb.size)⟩
  · have hr : gmE M O a b = 3 := ck_three fun h => hv h.1
    rw [gmS, hr, mo_bad (by decide)]
    cases hva : validB a
    · have HA := Lib.hid hva
      clear hr hv hva
      go_enter Tryz.func33, Tryz.ntmps33
      go_wp2_with fail
      refine (refValid_any _ _).mono ?_; rw [HA.out]; rintro e w1 ⟨rfl, rfl⟩
      go_wp2_with fail
      go_ret2
      exact ⟨rfl, hb⟩
    · have hvb : validB b = false := by simpa [hva] using hv
      have HA := Lib.hid hva
      have HB := Lib.hid hvb
      clear hr hv hva hvb
      go_enter Tryz.func33, Tryz.ntmps33
      go_wp2_with fail
      refine (refValid_any _ _).mono ?_; rw [HA.out]; rintro e w1 ⟨rfl, rfl⟩
      go_wp2_with fail
      refine (refValid_any _ _).mono ?_; rw [HB.out]; rintro e w1 ⟨rfl, rfl⟩
      go_wp2_with fail
      go_ret2
      exact ⟨rfl, hb⟩
end Go.Proofs.YtcjbbneiobnmkaaGreat

/- The reference of layer 13: Exp, Product. -/
namespace Go.Proofs.YtcjbbneiobnmkaaGreat
open Go.RowKit Num
set_option maxRecDepth 20000
set_option linter.unusedVariables false
theorem gpE_single (M O x : ByteArray) (e : Bool × ByteArray) : gpE M O [x] [e] = ckE M O [x] [e] true := rfl
theorem gp_el {M O x t : ByteArray} {ng : Bool} (h : gE M O = 0) (hv : validB x = true) (he : elN (nv M) (nv O) (nv x) = true) (ht : ivB (ng, t) = true) :
    gpE M O [x] [(ng, t)] = 0 ∧ gpS M O [x] [(ng, t)] = pwS x ng t M := by
  have h1 : gpE M O [x] [(ng, t)] = 0 := by
    rw [gpE_single, ck_last ⟨by simp [hv], by simp [ht]⟩ h, if_pos (by simp [he])]
  refine ⟨h1, ?_⟩
  rw [gpS, h1, mo_zero, (pwS_el h hv he ht).2]
  simp [prs, pr]
/-- the boxes of Exp -/
theorem box_ge (w : World) (M O : ByteArray) (ng : Bool) (t : ByteArray) : ∃ w1, (w.alloc (.cells #[.string M, .string O] 24)).alloc (.cells #[.bool ng, .string t] 32) = w1 ∧
    GB w1 w.heap.size M O ∧ IB w1 (w.heap.size + 1) ng t ∧ Below w.heap.size w w1 := by
  refine ⟨_, rfl, (GB.new w M O).alloc _, ?_, ((Below.refl _ w).alloc (Nat.le_refl _) _).alloc (by simp) _⟩
  have := IB.new (w.alloc (.cells #[.string M, .string O] 24)) ng t
  rw [World.size_alloc] at this
  exact this
set_option maxHeartbeats 4000000 in
theorem r13Exp_any (M O x : ByteArray) (ng : Bool) (t : ByteArray) (w : World) (h64 : M.size ≤ 64) :
    Calls Tryz.prog 21 #[.agg #[.string M, .string O], .string x, .agg #[.bool ng, .string t]] w fun e w' => e = .returned (.tuple #[.string (gpS M O [x] [(ng, t)]), .int .i64 (gpE M O [x] [(ng, t)])]) ∧ Below w.heap.size w w' := by
  obtain ⟨w0, hw0, hG, hI, hb⟩ := box_ge w M O ng t
  cases hva : validB x
  · have hr : gpE M O [x] [(ng, t)] = 3 := ck_three fun h => by simp [hva] at h
    rw [gpS, hr, mo_bad (by decide)]
    have HA := Lib.hid hva
    clear hr hva
    go_enter Tryz.func21, Tryz.ntmps21
    go_wp2_with fail
    clear hw0
    refine (refValid_any _ _).mono ?_; rw [HA.out]; rintro e w1 ⟨rfl, rfl⟩
    go_wp2_with fail
    go_ret2
    exact ⟨rfl, hb⟩
  have HA := Lib.hid hva
  cases hvb : ivB (ng, t)
  · have hr : gpE M O [x] [(ng, t)] = 3 := ck_three fun h => by simp [hvb] at h
    rw [gpS, hr, mo_bad (by decide)]
    have HB := Lib.hid (show (validB t && !(ng && t.toList.isEmpty)) = false from hvb)
    clear hr hva hvb
    go_enter Tryz.func21, Tryz.ntmps21
    go_wp2_with fail
    clear hw0
    have d0 := hI.c0
    have d1 := hI.c1
    refine (refValid_any _ _).mono ?_; rw [HA.out]; rintro e w1 ⟨rfl, rfl⟩
    go_wp2_with fail
    refine (ref2Valid_any ng t _).mono ?_; rw [HB.out]; rintro e w1 ⟨rfl, b1⟩
    go_wp2_with fail
    go_ret2
    exact ⟨rfl, hb.trans (b1.mono hb.size)⟩
  have HB := Lib.hid (show (validB t && !(ng && t.toList.isEmpty)) = true from hvb)
  have hvv : ([x] : List ByteArray).all validB = true ∧ ([(ng, t)] : List (Bool × ByteArray)).all ivB = true := ⟨by simp [hva], by simp [hvb]⟩
  rcases gE_cases M O with h | h | h
  rotate_left
  iterate 2
    · have hr : gpE M O [x] [(ng, t)] = gE M O := ck_group hvv (by rw [h]; decide)
      rw [gpS, hr, h, mo_bad (by decide)]
      have HE := Lib.hid h
      clear hr h hva hvb hvv
      go_enter Tryz.func21, Tryz.ntmps21
      go_wp2_with fail
      clear hw0
      have c0 := hG.c0
      have c1 := hG.c1
      have d0 := hI.c0
      have d1 := hI.c1
      refine (refValid_any _ _).mono ?_; rw [HA.out]; rintro e w1 ⟨rfl, rfl⟩
      go_wp2_with fail
      refine (ref2Valid_any ng t _).mono ?_; rw [HB.out]; rintro e w1 ⟨rfl, b1⟩
      have hG1 := hG.below b1 hG.lt
      replace hb := hb.trans (b1.mono hb.size)
      clear b1 hG c0 c1 d0 d1
      have c0 := hG1.c0
      have c1 := hG1.c1
      go_wp2_with fail
      refine (r13Check_any M O _).mono ?_; rw [HE.out]; rintro e w1 ⟨rfl, b1⟩
      go_wp2_with fail
      go_ret2
      exact ⟨rfl, hb.trans (b1.mono hb.size)⟩
  have HE := Lib.hid h
  have HHA := Lib.hid (fun w => r13has_any M O x w h hva h64)
  cases hea : elN (nv M) (nv O) (nv x)
  · have hr : gpE M O [x] [(ng, t)] = 13 := by rw [gpE_single, ck_last hvv h, if_neg (by simp [hea])]
    rw [gpS, hr, mo_bad (by decide)]
    rw [hea] at HHA
    clear hr h hva hvb hvv hea
    go_enter Tryz.func21, Tryz.ntmps21
    go_wp2_with fail
    clear hw0
    have c0 := hG.c0
    have c1 := hG.c1
    have d0 := hI.c0
    have d1 := hI.c1
    refine (refValid_any _ _).mono ?_; rw [HA.out]; rintro e w1 ⟨rfl, rfl⟩
    go_wp2_with fail
    refine (ref2Valid_any ng t _).mono ?_; rw [HB.out]; rintro e w1 ⟨rfl, b1⟩
    have hG1 := hG.below b1 hG.lt
    replace hb := hb.trans (b1.mono hb.size)
    clear b1 hG c0 c1 d0 d1
    have c0 := hG1.c0
    have c1 := hG1.c1
    go_wp2_with fail
    refine (r13Check_any M O _).mono ?_; rw [HE.out]; rintro e w1 ⟨rfl, b1⟩
    have hG2 := hG1.below b1 hG1.lt
    replace hb := hb.trans (b1.mono hb.size)
    clear b1 hG1 c0 c1
    have c0 := hG2.c0
    have c1 := hG2.c1
    go_wp2_with fail
    refine (HHA.out _).mono ?_; rintro e w2 ⟨rfl, b2⟩
    go_wp2_with fail
    go_ret2
    exact ⟨rfl, hb.trans (b2.mono hb.size)⟩
  rw [hea] at HHA
  obtain ⟨e1, e2⟩ := gp_el h hva hea hvb
  rw [e1, e2]
  clear h hva hvb hvv hea e1 e2
  go_enter Tryz.func21, Tryz.ntmps21
  go_wp2_with fail
  clear hw0
  have c0 := hG.c0
  have c1 := hG.c1
  have d0 := hI.c0
  have d1 := hI.c1
  refine (refValid_any _ _).mono ?_; rw [HA.out]; rintro e w1 ⟨rfl, rfl⟩
  go_wp2_with fail
  refine (ref2Valid_any ng t _).mono ?_; rw [HB.out]; rintro e w1 ⟨rfl, b1⟩
  have hG1 := hG.below b1 hG.lt
  have hI1 := hI.below b1 hI.lt
  replace hb := hb.trans (b1.mono hb.size)
  clear b1 hG hI c0 c1 d0 d1
  have c0 := hG1.c0
  have c1 := hG1.c1
  go_wp2_with fail
  refine (r13Check_any M O _).mono ?_; rw [HE.out]; rintro e w1 ⟨rfl, b1⟩
  have hG2 := hG1.below b1 hG1.lt
  have hI2 := hI1.below b1 hI1.lt
  replace hb := hb.trans (b1.mono hb.size)
  clear b1 hG1 hI1 c0 c1
  have c0 := hG2.c0
  have c1 := hG2.c1
  go_wp2_with fail
  refine (HHA.out _).mono ?_; rintro e w2 ⟨rfl, b2⟩
  have hG1 := hG2.below b2 hG2.lt
  have hI1 := hI2.below b2 hI2.lt
  replace hb := hb.trans (b2.mono hb.size)
  clear b2 hG2 hI2 c0 c1
  have c0 := hG1.c0
  have c1 := hG1.c1
  have d0 := hI1.c0
  have d1 := hI1.c1
  go_wp2_with fail
  refine (r13raw_any M O x ng t _ h64).mono ?_; rintro e w2 ⟨rfl, b2⟩
  go_wp2_with fail
  go_ret2
  exact ⟨rfl, hb.trans (b2.mono hb.size)⟩
end Go.Proofs.YtcjbbneiobnmkaaGreat
