import Derived.Test.YtcbamkgomnhdbaaGreatDoorR3d
import Derived.Test.YtcbamkgomnhdbaaGreatDoorPwC
import Derived.Test.YtcbamkgomnhdbaaGreatDoorPwF
import Derived.Test.YtcbamkgomnhdbaaGreatDoorPwI
/- The reference of layer 13: Check, has, Has, Mul, Exp. -/
namespace Go.Proofs.YtcbamkgomnhdbaaGreatDoor
open Go.RowKit Num
set_option maxRecDepth 20000
set_option linter.unusedVariables false
theorem lit8 : (⟨#[8]⟩ : ByteArray) = enc 8 := by decide +kernel
theorem lit1 : (⟨#[1]⟩ : ByteArray) = enc 1 := by decide +kernel
theorem r13Check_three (M O : ByteArray) (w : World) (h : ¬ (validB M = true ∧ validB O = true)) :
    Calls Tryz.prog 108 #[.agg #[.string M, .string O]] w fun e w' => e = .returned (.int .i64 3) ∧ Below w.heap.size w w' := by
  have hb := (Below.refl _ w).alloc (Nat.le_refl _) (.cells #[.string M, .string O] 50)
  cases hM : validB M
  · have HM := Lib.hid hM
    clear hM h
    go_enter Tryz.func108, Tryz.ntmps108
    go_wp2_with fail
    refine (refValid_any M _).mono ?_; rw [HM.out]; rintro e w1 ⟨rfl, rfl⟩
    go_wp2_with fail
    go_ret
    exact ⟨rfl, hb⟩
  · have hO : validB O = false := by simpa [hM] using h
    have HM := Lib.hid hM
    have HO := Lib.hid hO
    clear hM h hO
    go_enter Tryz.func108, Tryz.ntmps108
    go_wp2_with fail
    refine (refValid_any M _).mono ?_; rw [HM.out]; rintro e w1 ⟨rfl, rfl⟩
    go_wp2_with fail
    refine (refValid_any O _).mono ?_; rw [HO.out]; rintro e w1 ⟨rfl, rfl⟩
    go_wp2_with fail
    go_ret
    exact ⟨rfl, hb⟩
theorem r13Check_zero (w : World) :
    Calls Tryz.prog 108 #[.agg #[.string ⟨#[]⟩, .string ⟨#[]⟩]] w fun e w' => e = .returned (.int .i64 13) ∧ Below w.heap.size w w' := by
  have hb := (Below.refl _ w).alloc (Nat.le_refl _) (.cells #[.string ⟨#[]⟩, .string ⟨#[]⟩] 50)
  have hG := GB.new w ⟨#[]⟩ ⟨#[]⟩
  have HV := Lib.hid (show validB ⟨#[]⟩ = true by decide +kernel)
  go_enter Tryz.func108, Tryz.ntmps108
  go_wp2_with fail
  generalize w.alloc _ = w0 at hb hG ⊢
  have c0 := hG.c0
  have c1 := hG.c1
  refine (refValid_any _ _).mono ?_; rw [HV.out]; rintro e w1 ⟨rfl, rfl⟩
  go_wp2_with fail
  refine (refValid_any _ _).mono ?_; rw [HV.out]; rintro e w1 ⟨rfl, rfl⟩
  go_wp2_with fail
  go_ret
  exact ⟨rfl, hb⟩
set_option maxHeartbeats 4000000 in
theorem r13Check_unit (M : ByteArray) (m : Nat) (w : World) (hM : IsN M m) (h0 : 0 < m) (E : Int) (hE : E = if m % 2 = 1 ∧ 8 < m then 0 else 13) :
    Calls Tryz.prog 108 #[.agg #[.string M, .string ⟨#[]⟩]] w fun e w' => e = .returned (.int .i64 E) ∧ Below w.heap.size w w' := by
  have hb := (Below.refl _ w).alloc (Nat.le_refl _) (.cells #[.string M, .string ⟨#[]⟩] 50)
  have hG := GB.new w M ⟨#[]⟩
  have HM := Lib.hid hM
  have HV := Lib.hid (show validB ⟨#[]⟩ = true by decide +kernel)
  obtain ⟨n1, n2⟩ := tl_ne (hM.pos h0)
  have hp := hM.pos h0
  have hsm := hM.small
  obtain ⟨p, hpp⟩ : ∃ p, M.size = p + 1 := ⟨M.size - 1, by omega⟩
  have x1 : wrap64 ((M.size : Int) - 1) = (p : Int) := by rw [hpp]; unfold wrap64; omega
  have x2 : (p : Int) < (M.size : Int) := by omega
  have x3 : p < M.size := by omega
  have x4 : (0 : Int) ≤ (p : Int) := by omega
  have hd : M[p].toNat = m % 256 := by
    have := nv_digit M 0 (by omega)
    rw [hM.nv] at this
    have e : M.size - 1 - 0 = p := by omega
    simp only [e] at this
    rw [this]; simp
  by_cases ho : m % 2 = 1
  rotate_left
  · have y1 : ((M[p].toNat : Int) % 2 == 0) = true := by rw [hd]; simp; omega
    have y2 : (M[p].toNat : Int) % 2 = 0 := by rw [hd]; omega
    have HE := Lib.hid (hE.trans (if_neg fun h => ho h.1))
    clear hM h0 hE hp hsm hpp hd ho
    go_enter Tryz.func108, Tryz.ntmps108
    go_wp2_with fail
    generalize w.alloc _ = w0 at hb hG ⊢
    have c0 := hG.c0
    have c1 := hG.c1
    refine (refValid_any _ _).mono ?_; rw [HM.out.valid]; rintro e w1 ⟨rfl, rfl⟩
    go_wp2_with fail
    refine (refValid_any _ _).mono ?_; rw [HV.out]; rintro e w1 ⟨rfl, rfl⟩
    go_wp2_with fail
    go_ret
    exact ⟨ret_int HE.out.symm, hb⟩
  have y1 : ((M[p].toNat : Int) % 2 == 0) = false := by rw [hd]; simp; omega
  have y2 : ¬ ((M[p].toNat : Int) % 2 = 0) := by rw [hd]; omega
  have HORD := Lib.hid (fun w => refOrder_any M ⟨#[8]⟩ m 8 w hM.eq lit8 (by omega) (by decide))
  have hE8 : E = if 8 < m then 0 else 13 := by rw [hE]; simp [ho]
  clear hE h0 hp hsm hpp hd ho
  rcases ncmp3 m 8 with ⟨h8, u2⟩ | ⟨h8, u2⟩ | ⟨h8, u2⟩
  all_goals
    have HE := Lib.hid (hE8.trans (by first | exact if_pos h8 | exact if_neg (by omega)))
    rw [u2] at HORD
    clear hE8 h8 u2 hM
    go_enter Tryz.func108, Tryz.ntmps108
    go_wp2_with fail
    generalize w.alloc _ = w0 at hb hG ⊢
    have c0 := hG.c0
    have c1 := hG.c1
    refine (refValid_any _ _).mono ?_; rw [HM.out.valid]; rintro e w1 ⟨rfl, rfl⟩
    go_wp2_with fail
    refine (refValid_any _ _).mono ?_; rw [HV.out]; rintro e w1 ⟨rfl, rfl⟩
    go_wp2_with fail
    refine (HORD.out _).mono ?_; rintro e w2 ⟨rfl, b2⟩
    go_wp2_with fail
    go_ret
    exact ⟨ret_int HE.out.symm, hb.trans (b2.mono hb.size)⟩
theorem one_of {s : ByteArray} (h : IsN s 1) : s = ⟨#[1]⟩ := by rw [h.eq]; decide +kernel
theorem not_one {s : ByteArray} {a : Nat} (h : IsN s a) (h1 : a ≠ 1) : (s.toList == [1]) = false ∧ (s.toList = [1] → False) := by
  rw [h.eq, ← one_list]; exact enc_ne h1
set_option maxHeartbeats 4000000 in
theorem r13Check_low (M O : ByteArray) (m o : Nat) (w : World) (hM : IsN M m) (hO : IsN O o) (h0 : 0 < o) (h : m < 2 ∨ o = 1) :
    Calls Tryz.prog 108 #[.agg #[.string M, .string O]] w fun e w' => e = .returned (.int .i64 13) ∧ Below w.heap.size w w' := by
  have hb := (Below.refl _ w).alloc (Nat.le_refl _) (.cells #[.string M, .string O] 50)
  have hG := GB.new w M O
  have HM := Lib.hid hM.valid
  have HO := Lib.hid hO.valid
  obtain ⟨n1, n2⟩ := tl_ne (hO.pos h0)
  by_cases m0 : m = 0
  · have es : M = ⟨#[]⟩ := by rw [m0] at hM; exact empty_of hM
    subst es
    clear h m0 hM hO
    go_enter Tryz.func108, Tryz.ntmps108
    go_wp2_with fail
    generalize w.alloc _ = w0 at hb hG ⊢
    have c0 := hG.c0
    have c1 := hG.c1
    refine (refValid_any _ _).mono ?_; rw [HM.out]; rintro e w1 ⟨rfl, rfl⟩
    go_wp2_with fail
    refine (refValid_any _ _).mono ?_; rw [HO.out]; rintro e w1 ⟨rfl, rfl⟩
    go_wp2_with fail
    go_ret
    exact ⟨rfl, hb⟩
  obtain ⟨n3, n4⟩ := tl_ne (hM.pos (by omega))
  by_cases m1 : m = 1
  · have es : M = ⟨#[1]⟩ := by rw [m1] at hM; exact one_of hM
    subst es
    have q1 : ((⟨#[1]⟩ : ByteArray).toList == [1]) = true := by decide +kernel
    have q2 : (⟨#[1]⟩ : ByteArray).toList = [1] := by decide +kernel
    clear h m0 m1 hM hO
    go_enter Tryz.func108, Tryz.ntmps108
    go_wp2_with fail
    generalize w.alloc _ = w0 at hb hG ⊢
    have c0 := hG.c0
    have c1 := hG.c1
    refine (refValid_any _ _).mono ?_; rw [HM.out]; rintro e w1 ⟨rfl, rfl⟩
    go_wp2_with fail
    refine (refValid_any _ _).mono ?_; rw [HO.out]; rintro e w1 ⟨rfl, rfl⟩
    go_wp2_with fail
    go_ret
    exact ⟨rfl, hb⟩
  obtain ⟨n5, n6⟩ := not_one hM m1
  have es : O = ⟨#[1]⟩ := by rw [show o = 1 by omega] at hO; exact one_of hO
  subst es
  have q1 : ((⟨#[1]⟩ : ByteArray).toList == [1]) = true := by decide +kernel
  have q2 : (⟨#[1]⟩ : ByteArray).toList = [1] := by decide +kernel
  clear h m0 m1 hM hO
  go_enter Tryz.func108, Tryz.ntmps108
  go_wp2_with fail
  generalize w.alloc _ = w0 at hb hG ⊢
  have c0 := hG.c0
  have c1 := hG.c1
  refine (refValid_any _ _).mono ?_; rw [HM.out]; rintro e w1 ⟨rfl, rfl⟩
  go_wp2_with fail
  refine (refValid_any _ _).mono ?_; rw [HO.out]; rintro e w1 ⟨rfl, rfl⟩
  go_wp2_with fail
  go_ret
  exact ⟨rfl, hb⟩
set_option maxHeartbeats 4000000 in
theorem r13Check_div (M O : ByteArray) (m o : Nat) (w : World) (hM : IsN M m) (hO : IsN O o) (h2 : 2 ≤ m) (h3 : 2 ≤ o) (E : Int) (hE : E = if (m - 1) % o = 0 then 0 else 13) :
    Calls Tryz.prog 108 #[.agg #[.string M, .string O]] w fun e w' => e = .returned (.int .i64 E) ∧ Below w.heap.size w w' := by
  have hb := (Below.refl _ w).alloc (Nat.le_refl _) (.cells #[.string M, .string O] 50)
  have hG := GB.new w M O
  have HM := Lib.hid hM.valid
  have HO := Lib.hid hO.valid
  obtain ⟨n1, n2⟩ := tl_ne (hO.pos (by omega))
  obtain ⟨n3, n4⟩ := tl_ne (hM.pos (by omega))
  obtain ⟨n5, n6⟩ := not_one hM (by omega)
  obtain ⟨n7, n8⟩ := not_one hO (by omega)
  have l1 := hM.small
  have l2 := hO.small
  have HMI := Lib.hid (fun w => refMinus_any M ⟨#[1]⟩ m 1 w hM.eq lit1 (by omega) (by omega))
  have hml : blen (m - 1) ≤ 128 := Nat.le_trans (blen_mono (by omega)) hM.le
  have HOV := Lib.hid (fun w => refOver_any (enc (m - 1)) O (m - 1) o w rfl hO.eq (by omega) (by rw [size_enc]; omega) (by omega))
  obtain ⟨q, hq⟩ : ∃ q, (m - 1) / o = q := ⟨_, rfl⟩
  obtain ⟨r, hr⟩ : ∃ r, (m - 1) % o = r := ⟨_, rfl⟩
  obtain ⟨m1, hm1⟩ : ∃ r, m - 1 = r := ⟨_, rfl⟩
  rw [hq, hr, hm1] at HOV
  rw [hr] at hE
  rw [hm1] at HMI
  clear hM hO h2 h3 hml hq hr hm1 l1 l2
  go_enter Tryz.func108, Tryz.ntmps108
  go_wp2_with fail
  generalize w.alloc _ = w0 at hb hG ⊢
  have c0 := hG.c0
  have c1 := hG.c1
  refine (refValid_any _ _).mono ?_; rw [HM.out]; rintro e w1 ⟨rfl, rfl⟩
  go_wp2_with fail
  refine (refValid_any _ _).mono ?_; rw [HO.out]; rintro e w1 ⟨rfl, rfl⟩
  go_wp2_with fail
  go_cut [3, 4] from 51 (fun v3 v4 wc => v3 = .string (enc q) ∧ v4 = .string (enc r) ∧ Below w.heap.size w wc)
  case first =>
    go_region_held3 (fun w' => w'.cell? ⟨w.heap.size, 0, none⟩ = some (.string M) ∧ w'.cell? ⟨w.heap.size, 1, none⟩ = some (.string O) ∧ GB w' w.heap.size M O ∧ Below w.heap.size w w')
      (first | exact ⟨c0, c1, hG, hb.drew⟩ | assumption | (refine keepG ?_ bn; assumption))
      (first
        | (go_at_call 89; (with_reducible refine (HMI.out _).mono ?_); rintro e wn ⟨rfl, bn⟩)
        | (go_at_call 140; (with_reducible refine (HOV.out _).mono ?_); rintro e wn ⟨rfl, bn⟩))
    all_goals (go_split_ands; go_wp2_with fail; go_meet; exact ⟨rfl, rfl, by assumption⟩)
  case rest =>
    clear hb hG c0 c1
    obtain ⟨rfl, rfl, hb⟩ := hcut
    by_cases h0 : r = 0
    · have HE := Lib.hid (hE.trans (if_pos h0))
      subst h0
      clear hE
      rw [enc_zero]
      go_wp2_with fail
      go_ret
      exact ⟨ret_int HE.out.symm, hb⟩
    · obtain ⟨k1, k2⟩ := And.intro (notEmpty_enc (b := r) (by omega)) (toList_enc_nil (b := r) (by omega))
      have HE := Lib.hid (hE.trans (if_neg h0))
      clear h0 hE
      go_wp2_with fail
      go_ret
      exact ⟨ret_int HE.out.symm, hb⟩
theorem r13Check_any (M O : ByteArray) (w : World) :
    Calls Tryz.prog 108 #[.agg #[.string M, .string O]] w fun e w' => e = .returned (.int .i64 (gE M O)) ∧ Below w.heap.size w w' := by
  unfold gE
  by_cases h : validB M = true ∧ validB O = true
  · have hM := isN_of_valid h.1
    have hO := isN_of_valid h.2
    rw [if_pos h]
    clear h
    by_cases h0 : nv O = 0
    · rw [if_pos h0]
      have eO : O = ⟨#[]⟩ := by rw [h0] at hO; exact empty_of hO
      subst eO
      by_cases h1 : nv M = 0
      · have eM : M = ⟨#[]⟩ := by rw [h1] at hM; exact empty_of hM
        subst eM
        exact r13Check_zero w
      · exact r13Check_unit M (nv M) w hM (by omega) _ rfl
    · rw [if_neg h0]
      by_cases h1 : nv M < 2 ∨ nv O = 1
      · rw [if_neg fun h => by omega]
        exact r13Check_low M O (nv M) (nv O) w hM hO (by omega) h1
      · refine r13Check_div M O (nv M) (nv O) w hM hO (by omega) (by omega) _ ?_
        by_cases h4 : (nv M - 1) % nv O = 0
        · rw [if_pos ⟨by omega, by omega, h4⟩, if_pos h4]
        · rw [if_neg fun h => h4 h.2.2, if_neg h4]
  · rw [if_neg h]
    exact r13Check_three M O w h
theorem r9form_yes (M O : ByteArray) (w : World) (hM : validB M = true) (hO : validB O = true) :
    Calls Tryz.prog 176 #[.agg #[.string M, .string O]] w fun e w' => e = .returned (.bool true) ∧ Below w.heap.size w w' := by
  have hb := (Below.refl _ w).alloc (Nat.le_refl _) (.cells #[.string M, .string O] 50)
  have HM := Lib.hid hM
  have HO := Lib.hid hO
  clear hM hO
  go_enter Tryz.func176, Tryz.ntmps176
  go_wp2_with fail
  refine (refValid_any _ _).mono ?_; rw [HM.out]; rintro e w1 ⟨rfl, rfl⟩
  go_wp2_with fail
  refine (refValid_any _ _).mono ?_; rw [HO.out]; rintro e w1 ⟨rfl, rfl⟩
  go_wp2_with fail
  go_ret
  exact ⟨rfl, hb⟩
set_option maxHeartbeats 4000000 in
theorem r9Has_any (M O s : ByteArray) (m o x : Nat) (w : World) (hM : IsN M m) (hO : IsN O o) (h2 : 2 ≤ m) (h0 : 0 < o) (hs : IsN s x) (h64 : M.size ≤ 64) :
    Calls Tryz.prog 147 #[.agg #[.string M, .string O], .string s] w fun e w' => e = .returned (.bool (elN m o x)) ∧ Below w.heap.size w w' := by
  have hb := (Below.refl _ w).alloc (Nat.le_refl _) (.cells #[.string M, .string O] 50)
  have hG := GB.new w M O
  have HO := Lib.hid hO
  have HM := Lib.hid hM
  have HS := Lib.hid hs
  obtain ⟨n1, n2⟩ := tl_ne (hO.pos h0)
  by_cases x0 : x = 0
  · have HR := Lib.hid (show elN m o x = false by unfold elN; rw [decide_eq_false (by simp [x0])]; rfl)
    have es : s = ⟨#[]⟩ := by rw [x0] at hs; exact empty_of hs
    subst es
    clear x0 hs hM hO h0
    go_enter Tryz.func147, Tryz.ntmps147
    go_wp2_with fail
    generalize w.alloc _ = w0 at hb hG ⊢
    have c0 := hG.c0
    have c1 := hG.c1
    go_wp2_with fail
    refine (r9form_yes M O _ HM.out.valid HO.out.valid).mono ?_; rintro e w1 ⟨rfl, b1⟩
    have hG1 := hG.below b1 hG.lt
    replace hb := hb.trans (b1.mono hb.size)
    clear c0 c1
    have c0 := hG1.c0
    have c1 := hG1.c1
    go_wp2_with fail
    refine (refValid_any _ _).mono ?_; rw [HS.out.valid]; rintro e w1 ⟨rfl, rfl⟩
    go_wp2_with fail
    go_ret
    exact ⟨ret_bool HR.out.symm, hb⟩
  obtain ⟨n3, n4⟩ := tl_ne (hs.pos (by omega))
  have HORD := Lib.hid (fun w => refOrder_any s M x m w hs.eq hM.eq (by have := hs.le; have := hs.size; omega) (by omega))
  by_cases xm : m ≤ x
  · have HR := Lib.hid (show elN m o x = false by unfold elN; rw [decide_eq_false (by omega)]; rfl)
    have u1 : decide (0 ≤ ncmp x m) = true := by rw [nge_dec]; exact decide_eq_true xm
    clear x0 hs hM hO h0 xm
    go_enter Tryz.func147, Tryz.ntmps147
    go_wp2_with fail
    generalize w.alloc _ = w0 at hb hG ⊢
    have c0 := hG.c0
    have c1 := hG.c1
    go_wp2_with fail
    refine (r9form_yes M O _ HM.out.valid HO.out.valid).mono ?_; rintro e w1 ⟨rfl, b1⟩
    have hG1 := hG.below b1 hG.lt
    replace hb := hb.trans (b1.mono hb.size)
    clear c0 c1
    have c0 := hG1.c0
    have c1 := hG1.c1
    go_wp2_with fail
    refine (refValid_any _ _).mono ?_; rw [HS.out.valid]; rintro e w1 ⟨rfl, rfl⟩
    go_wp2_with fail
    refine (HORD.out _).mono ?_; rintro e w2 ⟨rfl, b2⟩
    go_wp2_with fail
    go_ret
    exact ⟨ret_bool HR.out.symm, hb.trans (b2.mono hb.size)⟩
  have u1 : decide (0 ≤ ncmp x m) = false := by rw [nge_dec]; exact decide_eq_false xm
  have hr : ∀ y, x ^ o % m = y → elN m o x = decide (y = 1) := by
    intro y hy; subst hy; unfold elN; rw [decide_eq_true (show x ≠ 0 ∧ x < m by omega), Bool.true_and]; exact decide_eq_decide.2 (by rw [if_neg (by omega)])
  have hx := refMExp_any s O M
  rw [chk21 hs hO hM (by omega), hs.nv, hO.nv, hM.nv, mo_zero] at hx
  have HX := Lib.hid (fun w => hx w h64)
  obtain ⟨y, hy⟩ : ∃ y, x ^ o % m = y := ⟨_, rfl⟩
  have HR := Lib.hid (hr y hy)
  rw [hy] at HX
  clear x0 hs hM hO h0 xm hr hx hy
  go_enter Tryz.func147, Tryz.ntmps147
  go_wp2_with fail
  generalize w.alloc _ = w0 at hb hG ⊢
  have c0 := hG.c0
  have c1 := hG.c1
  go_wp2_with fail
  refine (r9form_yes M O _ HM.out.valid HO.out.valid).mono ?_; rintro e w1 ⟨rfl, b1⟩
  have hG1 := hG.below b1 hG.lt
  replace hb := hb.trans (b1.mono hb.size)
  clear b1 hG c0 c1
  have c0 := hG1.c0
  have c1 := hG1.c1
  go_wp2_with fail
  refine (refValid_any _ _).mono ?_; rw [HS.out.valid]; rintro e w1 ⟨rfl, rfl⟩
  go_wp2_with fail
  refine (HORD.out _).mono ?_; rintro e w2 ⟨rfl, b2⟩
  have hG2 := hG1.below b2 hG1.lt
  replace hb := hb.trans (b2.mono hb.size)
  clear b2 hG1 c0 c1
  have c0 := hG2.c0
  have c1 := hG2.c1
  go_wp2_with fail
  refine (HX.out _).mono ?_; rintro e w3 ⟨rfl, b3⟩
  replace hb := hb.trans (b3.mono hb.size)
  clear b3 hG2 c0 c1
  by_cases y1 : y = 1
  · subst y1
    have e1 : ((enc 1).toList == [1]) = true := by decide +kernel
    have e2 := one_list
    go_wp2_with fail
    go_ret
    exact ⟨ret_bool (by rw [HR.out]; rfl), hb⟩
  · obtain ⟨e1, e2⟩ := enc_ne y1
    rw [one_list] at e1 e2
    replace HR := Lib.hid (HR.out.trans (decide_eq_false y1))
    clear y1
    go_wp2_with fail
    go_ret
    exact ⟨ret_bool HR.out.symm, hb⟩
set_option maxHeartbeats 4000000 in
theorem r13has_any (M O s : ByteArray) (w : World) (h : gE M O = 0) (hv : validB s = true) (h64 : M.size ≤ 64) :
    Calls Tryz.prog 118 #[.agg #[.string M, .string O], .string s] w fun e w' => e = .returned (.bool (elN (nv M) (nv O) (nv s))) ∧ Below w.heap.size w w' := by
  obtain ⟨hM, hO, h2, h3⟩ := gE_ok h
  have hs := isN_of_valid hv
  have hb := (Below.refl _ w).alloc (Nat.le_refl _) (.cells #[.string M, .string O] 50)
  have hG := GB.new w M O
  by_cases h0 : nv O = 0
  · have eO : O = ⟨#[]⟩ := by rw [h0] at hO; exact empty_of hO
    subst eO
    rw [h0]
    obtain ⟨x, hx⟩ : ∃ x, nv s = x := ⟨_, rfl⟩
    obtain ⟨m, hm⟩ : ∃ x, nv M = x := ⟨_, rfl⟩
    rw [hx] at hs ⊢
    rw [hm] at hM h2 ⊢
    clear hx hm h h3 hO h0
    by_cases x0 : x = 0
    · have HR := Lib.hid (show elN m 0 x = false by unfold elN; rw [decide_eq_false (by simp [x0])]; rfl)
      have es : s = ⟨#[]⟩ := by rw [x0] at hs; exact empty_of hs
      subst es
      clear x0 hs hM
      go_enter Tryz.func118, Tryz.ntmps118
      go_wp2_with fail
      generalize w.alloc _ = w0 at hb hG ⊢
      have c0 := hG.c0
      have c1 := hG.c1
      go_wp2_with fail
      go_ret
      exact ⟨ret_bool HR.out.symm, hb⟩
    obtain ⟨n3, n4⟩ := tl_ne (hs.pos (by omega))
    have HORD := Lib.hid (fun w => refOrder_any s M x m w hs.eq hM.eq (by have := hs.le; have := hs.size; omega) (by omega))
    have HCOM := Lib.hid (fun w => refCommon_any s M x m w hs hM)
    by_cases xm : m ≤ x
    · have HR := Lib.hid (show elN m 0 x = false by unfold elN; rw [decide_eq_false (by omega)]; rfl)
      have u1 : decide (ncmp x m < 0) = false := by rw [nlt_dec]; exact decide_eq_false (by omega)
      clear x0 hs hM xm
      go_enter Tryz.func118, Tryz.ntmps118
      go_wp2_with fail
      generalize w.alloc _ = w0 at hb hG ⊢
      have c0 := hG.c0
      have c1 := hG.c1
      go_wp2_with fail
      refine (HORD.out _).mono ?_; rintro e w2 ⟨rfl, b2⟩
      go_wp2_with fail
      go_ret
      exact ⟨ret_bool HR.out.symm, hb.trans (b2.mono hb.size)⟩
    have u1 : decide (ncmp x m < 0) = true := by rw [nlt_dec]; exact decide_eq_true (by omega)
    have hr : ∀ y, Nat.gcd x m = y → elN m 0 x = decide (y = 1) := by
      intro y hy; subst hy; unfold elN; rw [decide_eq_true (show x ≠ 0 ∧ x < m by omega), Bool.true_and]; exact decide_eq_decide.2 (by rw [if_pos rfl])
    obtain ⟨y, hy⟩ : ∃ y, Nat.gcd x m = y := ⟨_, rfl⟩
    have HR := Lib.hid (hr y hy)
    rw [hy] at HCOM
    clear x0 hs hM xm hr hy
    go_enter Tryz.func118, Tryz.ntmps118
    go_wp2_with fail
    generalize w.alloc _ = w0 at hb hG ⊢
    have c0 := hG.c0
    have c1 := hG.c1
    go_wp2_with fail
    refine (HORD.out _).mono ?_; rintro e w2 ⟨rfl, b2⟩
    have hG2 := hG.below b2 hG.lt
    replace hb := hb.trans (b2.mono hb.size)
    clear b2 hG c0 c1
    have c0 := hG2.c0
    have c1 := hG2.c1
    go_wp2_with fail
    refine (HCOM.out _).mono ?_; rintro e w3 ⟨rfl, b3⟩
    replace hb := hb.trans (b3.mono hb.size)
    clear b3 hG2 c0 c1
    by_cases y1 : y = 1
    · subst y1
      have e1 : ((enc 1).toList == [1]) = true := by decide +kernel
      have e2 := one_list
      go_wp2_with fail
      go_ret
      exact ⟨ret_bool (by rw [HR.out]; rfl), hb⟩
    · obtain ⟨e1, e2⟩ := enc_ne y1
      rw [one_list] at e1 e2
      replace HR := Lib.hid (HR.out.trans (decide_eq_false y1))
      clear y1
      go_wp2_with fail
      go_ret
      exact ⟨ret_bool HR.out.symm, hb⟩
  · have HH := Lib.hid (fun w => r9Has_any M O s (nv M) (nv O) (nv s) w hM hO h2 (by omega) hs h64)
    obtain ⟨n1, n2⟩ := tl_ne (hO.pos (by omega))
    clear h hM hO h2 h3 h0 hs
    go_enter Tryz.func118, Tryz.ntmps118
    go_wp2_with fail
    generalize w.alloc _ = w0 at hb hG ⊢
    have c0 := hG.c0
    have c1 := hG.c1
    go_wp2_with fail
    refine (HH.out _).mono ?_; rintro e w1 ⟨rfl, b1⟩
    go_wp2_with fail
    go_ret
    exact ⟨rfl, hb.trans (b1.mono hb.size)⟩
end Go.Proofs.YtcbamkgomnhdbaaGreatDoor

/- The reference of layer 13: Has, raw, Mul, Exp. -/
namespace Go.Proofs.YtcbamkgomnhdbaaGreatDoor
open Go.RowKit Num
set_option maxRecDepth 20000
set_option linter.unusedVariables false
theorem pwS_el {M O s t : ByteArray} {ng : Bool} (h : gE M O = 0) (hv : validB s = true) (he : elN (nv M) (nv O) (nv s) = true) (ht : ivB (ng, t) = true) :
    pwE s ng t M = 0 ∧ pwS s ng t M = enc (sb (nv M) (nv s) ng ^ nv t % nv M) := by
  obtain ⟨hM, hO, h2, h3⟩ := gE_ok h
  have hs := isN_of_valid hv
  unfold ivB at ht
  rw [Bool.and_eq_true, Bool.not_eq_true'] at ht
  have h1 : pwE s ng t M = 0 := by
    unfold pwE
    rw [if_pos ht]
    cases ng
    · rw [if_neg (by decide)]; exact chk11 hs hM (by omega)
    · rw [if_pos rfl]
      unfold ivE
      rw [if_pos (chk11 hs hM (by omega)), if_pos (el_unit he)]
  refine ⟨h1, ?_⟩
  rw [pwS, h1, mo_zero]
  rfl
set_option maxHeartbeats 1000000 in
theorem r13raw_any (M O s : ByteArray) (ng : Bool) (t : ByteArray) (w : World) (h64 : M.size ≤ 64) :
    Calls Tryz.prog 120 #[.agg #[.string M, .string O], .string s, .agg #[.bool ng, .string t]] w fun e w' => e = .returned (.string (pwS s ng t M)) ∧ Below w.heap.size w w' := by
  have hb := ((Below.refl _ w).alloc (Nat.le_refl _) (.cells #[.string M, .string O] 50)).alloc (by simp) (.cells #[.bool ng, .string t] 54)
  have hG := (GB.new w M O).alloc (.cells #[.bool ng, .string t] 54)
  have hI := IB.new (w.alloc (.cells #[.string M, .string O] 50)) ng t
  rw [World.size_alloc] at hI
  go_enter Tryz.func120, Tryz.ntmps120
  go_wp2_with fail
  generalize World.alloc _ _ = w0 at hb hG hI ⊢
  have c0 := hG.c0
  have c1 := hG.c1
  have d0 := hI.c0
  have d1 := hI.c1
  go_wp2_with fail
  refine (refPower_any s ng t M _ h64).mono ?_; rintro e w1 ⟨rfl, b1⟩
  go_wp2_with fail
  go_ret
  exact ⟨rfl, hb.trans (b1.mono hb.size)⟩
set_option maxHeartbeats 1000000 in
theorem r13Has_any (M O s : ByteArray) (w : World) (h64 : M.size ≤ 64) :
    Calls Tryz.prog 109 #[.agg #[.string M, .string O], .string s] w fun e w' => e = .returned (.bool (hasB M O s)) ∧ Below w.heap.size w w' := by
  have hb := (Below.refl _ w).alloc (Nat.le_refl _) (.cells #[.string M, .string O] 50)
  have hG := GB.new w M O
  rcases gE_cases M O with h | h | h
  · cases hv : validB s
    · have hr : hasB M O s = false := by unfold hasB; rw [hv, Bool.false_and, Bool.and_false]
      rw [hr]
      have HE := Lib.hid h
      have HV := Lib.hid hv
      clear hr h hv
      go_enter Tryz.func109, Tryz.ntmps109
      go_wp2_with fail
      generalize w.alloc _ = w0 at hb hG ⊢
      have c0 := hG.c0
      have c1 := hG.c1
      go_wp2_with fail
      refine (r13Check_any M O _).mono ?_; rw [HE.out]; rintro e w1 ⟨rfl, b1⟩
      go_wp2_with fail
      refine (refValid_any s _).mono ?_; rw [HV.out]; rintro e w2 ⟨rfl, rfl⟩
      go_wp2_with fail
      go_ret
      exact ⟨rfl, hb.trans (b1.mono hb.size)⟩
    · have hr : hasB M O s = elN (nv M) (nv O) (nv s) := by unfold hasB; rw [decide_eq_true h, Bool.true_and, hv, Bool.true_and]
      rw [hr]
      have HH := Lib.hid (fun w => r13has_any M O s w h hv h64)
      have HE := Lib.hid h
      have HV := Lib.hid hv
      clear hr h hv
      go_enter Tryz.func109, Tryz.ntmps109
      go_wp2_with fail
      generalize w.alloc _ = w0 at hb hG ⊢
      have c0 := hG.c0
      have c1 := hG.c1
      go_wp2_with fail
      refine (r13Check_any M O _).mono ?_; rw [HE.out]; rintro e w1 ⟨rfl, b1⟩
      have hG1 := hG.below b1 hG.lt
      replace hb := hb.trans (b1.mono hb.size)
      clear b1 hG c0 c1
      have c0 := hG1.c0
      have c1 := hG1.c1
      go_wp2_with fail
      refine (refValid_any s _).mono ?_; rw [HV.out]; rintro e w2 ⟨rfl, rfl⟩
      go_wp2_with fail
      refine (HH.out _).mono ?_; rintro e w2 ⟨rfl, b2⟩
      go_wp2_with fail
      go_ret
      exact ⟨rfl, hb.trans (b2.mono hb.size)⟩
  all_goals
    have hr : hasB M O s = false := by unfold hasB; rw [h]; rfl
    rw [hr]
    have HE := Lib.hid h
    clear hr h
    go_enter Tryz.func109, Tryz.ntmps109
    go_wp2_with fail
    generalize w.alloc _ = w0 at hb hG ⊢
    have c0 := hG.c0
    have c1 := hG.c1
    go_wp2_with fail
    refine (r13Check_any M O _).mono ?_; rw [HE.out]; rintro e w1 ⟨rfl, b1⟩
    go_wp2_with fail
    go_ret
    exact ⟨rfl, hb.trans (b1.mono hb.size)⟩
end Go.Proofs.YtcbamkgomnhdbaaGreatDoor

/- The reference of layer 13: Exp, Product. -/
namespace Go.Proofs.YtcbamkgomnhdbaaGreatDoor
open Go.RowKit Num
set_option maxRecDepth 20000
set_option linter.unusedVariables false
theorem gpE_single (M O x : ByteArray) (e : Bool × ByteArray) : gpE M O [x] [e] = ckE M O [x] [e] true := rfl
theorem gp_el {M O x t : ByteArray} {ng : Bool} (h : gE M O = 0) (hv : validB x = true) (he : elN (nv M) (nv O) (nv x) = true) (ht : ivB (ng, t) = true) :
    gpE M O [x] [(ng, t)] = 0 ∧ gpS M O [x] [(ng, t)] = pwS x ng t M := by
  have h1 : gpE M O [x] [(ng, t)] = 0 := by
    rw [gpE_single, ck_last ⟨by simp [hv], by simp [ht]⟩ h, if_pos (by simp [he])]
  refine ⟨h1, ?_⟩
  rw [gpS, h1, mo_zero, (pwS_el h hv he ht).2]
  simp [prs, pr]
end Go.Proofs.YtcbamkgomnhdbaaGreatDoor

/- The reference of layer 13: Product. -/
namespace Go.Proofs.YtcbamkgomnhdbaaGreatDoor
open Go.RowKit Num
set_option maxRecDepth 20000
set_option linter.unusedVariables false
theorem pr_snoc_mod {m : Nat} (L : List (Nat × Nat)) (k : Nat) (hk : k < L.length) : pr (L.take k) % m * (L[k].1 ^ L[k].2 % m) % m = pr (L.take (k + 1)) % m := by
  rw [pr_take_succ L k hk, ← Nat.mul_mod]
set_option maxHeartbeats 8000000 in
theorem r13Product_any (M O : ByteArray) (ao bo : Option Addr) (cl ce n1 n2 : Nat) (l : List ByteArray) (es : List (Bool × ByteArray)) (w : World) (hl : NS w ao l) (he : IS w bo es) (h1 : l.length = n1) (h2 : es.length = n2) (hn : n1 ≤ 1000) (hn2 : n2 ≤ 1000) (h64 : M.size ≤ 64) :
    Calls Tryz.prog 86 #[.agg #[.string M, .string O], .slice ao n1 cl, .slice bo n2 ce] w fun e w' => e = .returned (.tuple #[.string (gpS M O l es), .int .i64 (gpE M O l es)]) ∧ Below w.heap.size w w' := by
  have hb := (Below.refl _ w).alloc (Nat.le_refl _) (.cells #[.string M, .string O] 50)
  have hG := GB.new w M O
  obtain ⟨R, hR⟩ : ∃ R, gpE M O l es = R := ⟨_, rfl⟩
  obtain ⟨S, hS⟩ : ∃ S, gpS M O l es = S := ⟨_, rfl⟩
  rw [hR, hS]
  have HRS := Lib.hid (And.intro hR hS)
  have HBAD : Hid (∀ c : Int, c ≠ 0 → gpE M O l es = c → R = c ∧ S = ⟨#[]⟩) := fun c hc e => by
    refine ⟨hR.symm.trans e, ?_⟩
    rw [← hS, gpS, e, mo_bad hc]
  clear hR hS
  go_enter Tryz.func86, Tryz.ntmps86
  go_wp2_with fail
  have HL := Lib.hid (hl.below hb (Nat.le_refl _))
  have HE := Lib.hid (he.below hb (Nat.le_refl _))

  generalize w.alloc _ = w0 at hb hG HL HE ⊢
  clear hl he
  go_loop [8] (fun i => ∃ k : Nat, k ≤ n1 ∧ i = .int .i64 k ∧ Hid (∀ j (hj : j < l.length), j < k → validB l[j] = true)) (fun i => n1 - (intOf i).toNat)
  case atStart => exact ⟨0, by omega, rfl, fun j _ h => by omega⟩
  case round =>
    obtain ⟨k, hk, rfl, hv⟩ := hrel
    by_cases hlt : k < n1
    · have hkl : k < l.length := by omega
      obtain ⟨b, off, rfl, hc⟩ := HL.out k hkl
      obtain ⟨X, hX⟩ : ∃ X, l[k] = X := ⟨_, rfl⟩
      rw [hX] at hc
      by_cases hval : validB X = true
      · have HVV := Lib.hid hval
        have HST : Hid (∀ j (hj : j < l.length), j < k + 1 → validB l[j] = true) := fun j hj hjk => by
          by_cases e : j = k
          · subst e; rw [hX]; exact hval
          · exact hv.out j hj (by omega)
        clear hval hv hX
        go_wp2_with fail
        refine (refValid_any _ _).mono ?_; rw [HVV.out]; rintro e w1 ⟨rfl, rfl⟩
        go_wp2_with fail
        exact ⟨⟨k + 1, by omega, by go_num, HST⟩, by simp [intOf]; omega⟩
      · have hval2 : validB X = false := by simpa using hval
        have HR := Lib.hid (HBAD.out 3 (by decide) (ck_three fun h => not_all hkl (by rw [hX]; exact hval2) h.1))
        have HVV := Lib.hid hval2
        clear hval hval2 hX hv
        go_wp2_with fail
        refine (refValid_any _ _).mono ?_; rw [HVV.out]; rintro e w1 ⟨rfl, rfl⟩
        go_wp2_with fail
        go_ret2
        exact ⟨by rw [HR.out.1, HR.out.2]; rfl, hb⟩
    · obtain rfl : n1 = k := by omega
      have HV := Lib.hid (all_of (l := l) fun j hj => hv.out j hj (by omega))
      clear hv hlt
      go_wp2_with fail
      obtain ⟨wo, rfl⟩ : ∃ wo : World, wo = w0 := ⟨_, rfl⟩
      go_loopw [9] (fun i wr => ∃ k : Nat, k ≤ n2 ∧ i = .int .i64 k ∧ Hid (∀ j (hj : j < es.length), j < k → ivB es[j] = true) ∧ Below wo.heap.size wo wr) (fun i _ => n2 - (intOf i).toNat)
      case atStart => exact ⟨0, by omega, rfl, fun j _ h => by omega, Below.refl _ _⟩
      case round =>
        obtain ⟨k, hk2, rfl, hv, hbr⟩ := hrel
        by_cases hlt : k < n2
        · have hke : k < es.length := by omega
          obtain ⟨b, off, rfl, hc1, hc2⟩ := HE.out k hke
          obtain ⟨ng, hng⟩ : ∃ X, es[k].1 = X := ⟨_, rfl⟩
          obtain ⟨t, ht⟩ : ∃ X, es[k].2 = X := ⟨_, rfl⟩
          rw [hng] at hc1
          rw [ht] at hc2
          have hc1 := cellB_below hc1 hbr (Nat.le_refl _)
          have hc2 := cellB_below hc2 hbr (Nat.le_refl _)
          have hee : es[k] = (ng, t) := by rw [← hng, ← ht]
          clear hng ht
          cases hval : ivB (ng, t)
          · have HR := Lib.hid (HBAD.out 3 (by decide) (ck_three fun h => not_all hke (by rw [hee]; exact hval) h.2))
            have HVV := Lib.hid (show (validB t && !(ng && t.toList.isEmpty)) = false from hval)
            clear hval hee hv
            go_wp2_with fail
            refine (ref2Valid_any ng t _).mono ?_; rw [HVV.out]; rintro e w2 ⟨rfl, b2⟩
            have hb3 := hbr.trans (b2.mono hbr.size)
            go_wp2_with fail
            go_ret2
            exact ⟨by rw [HR.out.1, HR.out.2]; rfl, hb.trans (hb3.mono hb.size)⟩
          · have HVV := Lib.hid (show (validB t && !(ng && t.toList.isEmpty)) = true from hval)
            have HST : Hid (∀ j (hj : j < es.length), j < k + 1 → ivB es[j] = true) := fun j hj hjk => by
              by_cases e : j = k
              · subst e; rw [hee]; exact hval
              · exact hv.out j hj (by omega)
            clear hval hee hv
            go_wp2_with fail
            refine (ref2Valid_any ng t _).mono ?_; rw [HVV.out]; rintro e w2 ⟨rfl, b2⟩
            have hb3 := hbr.trans (b2.mono hbr.size)
            go_wp2_with fail
            exact ⟨⟨k + 1, by omega, by go_num, HST, hb3⟩, by simp [intOf]; omega⟩
        · obtain rfl : n2 = k := by omega
          have HVE := Lib.hid (all_of (l := es) fun j hj => hv.out j hj (by omega))
          have hG1 := hG.below hbr hG.lt
          have HL1 := Lib.hid (HL.out.below hbr (Nat.le_refl _))
          have HE1 := Lib.hid (HE.out.below hbr (Nat.le_refl _))
          have hb1 := hb.trans (hbr.mono hb.size)
          clear hv hlt hG HL HE hb
          have c0 := hG1.c0
          have c1 := hG1.c1
          rcases gE_cases M O with hg | hg | hg
          rotate_left
          iterate 2
            · have HR := Lib.hid (HBAD.out _ (by rw [hg]; decide) (ck_group (same := decide (l.length = es.length)) ⟨HV.out, HVE.out⟩ (by rw [hg]; decide)))
              have HG := Lib.hid hg
              clear hg
              go_wp2_with fail
              refine (r13Check_any M O _).mono ?_; rw [HG.out]; rintro e w2 ⟨rfl, b2⟩
              go_wp2_with fail
              go_ret2
              exact ⟨by rw [HR.out.1, HR.out.2, HG.out]; rfl, hb1.trans (b2.mono hb1.size)⟩
          have HG := Lib.hid hg
          clear hg
          by_cases hne : n1 = n2
          rotate_left
          · have HR := Lib.hid (HBAD.out 6 (by decide) (by unfold gpE; rw [decide_eq_false (by omega)]; exact ck_many ⟨HV.out, HVE.out⟩ HG.out))
            have u1 : ((n1 : Int) != (n2 : Int)) = true := by simp; omega
            have u2 : ¬ ((n1 : Int) = (n2 : Int)) := by omega
            go_wp2_with fail
            refine (r13Check_any M O _).mono ?_; rw [HG.out]; rintro e w2 ⟨rfl, b2⟩
            go_wp2_with fail
            go_ret2
            exact ⟨by rw [HR.out.1, HR.out.2]; rfl, hb1.trans (b2.mono hb1.size)⟩
          subst hne
          have hsm : gpE M O l es = ckE M O l es true := by unfold gpE; rw [decide_eq_true (by omega)]
          have HSM := Lib.hid hsm
          clear hsm
          go_wp2_with fail
          refine (r13Check_any M O _).mono ?_; rw [HG.out]; rintro e w2 ⟨rfl, b2⟩
          have hG2 := hG1.below b2 hG1.lt
          have HL2 := Lib.hid (HL1.out.below b2 (Nat.le_refl _))
          have HE2 := Lib.hid (HE1.out.below b2 (Nat.le_refl _))
          have hb2 := hb1.trans (b2.mono hb1.size)
          clear hG1 HL1 HE1 hb1 b2 c0 c1 hbr
          go_wp2_with fail
          obtain ⟨wp, rfl⟩ : ∃ wp : World, wp = w2 := ⟨_, rfl⟩
          go_loopw [11] (fun i wr => ∃ k : Nat, k ≤ n1 ∧ i = .int .i64 k ∧ Hid (∀ j (hj : j < l.length), j < k → elN (nv M) (nv O) (nv l[j]) = true) ∧ Below wp.heap.size wp wr) (fun i _ => n1 - (intOf i).toNat)
          case atStart => exact ⟨0, by omega, rfl, fun j _ h => by omega, Below.refl _ _⟩
          case round =>
            obtain ⟨k, hk3, rfl, hv, hbr⟩ := hrel
            have hG3 := hG2.below hbr hG2.lt
            have c0 := hG3.c0
            have c1 := hG3.c1
            by_cases hlt : k < n1
            · have hkl : k < l.length := by omega
              obtain ⟨b, off, rfl, hc⟩ := HL2.out k hkl
              have hvk := List.all_eq_true.1 HV.out _ (List.getElem_mem hkl)
              obtain ⟨X, hX⟩ : ∃ X, l[k] = X := ⟨_, rfl⟩
              rw [hX] at hc hvk
              have hc := cellB_below hc hbr (Nat.le_refl _)
              have HH := Lib.hid (fun w => r13has_any M O X w HG.out hvk h64)
              have kk : (0 : Int) ≤ (k : Int) := by omega
              have kl : (k : Int) < (n1 : Int) := by omega
              cases hval : elN (nv M) (nv O) (nv X)
              · have HR := Lib.hid (HBAD.out 13 (by decide) (by rw [HSM.out, ck_last ⟨HV.out, HVE.out⟩ HG.out, if_neg (not_all hkl (by rw [hX]; exact hval))]))
                rw [hval] at HH
                clear hval hX hv hvk
                go_wp2_with fail
                go_region_held3 (fun w' => w'.cell? ⟨w.heap.size, 0, none⟩ = some (.string M) ∧ w'.cell? ⟨w.heap.size, 1, none⟩ = some (.string O) ∧ w'.cell? ⟨b, off + k, none⟩ = some (.string X) ∧ Below wr.heap.size wr w')
                  (first | exact ⟨c0, c1, hc, (Below.refl _ wr).drew⟩ | (refine keep3 ?_ bn; assumption))
                  (first | (go_at_call 118; (with_reducible refine (HH.out _).mono ?_); rintro e wn ⟨rfl, bn⟩))
                go_split_ands
                have hbn : Below wr.heap.size wr wn := by assumption
                go_wp2_with fail
                go_ret2
                exact ⟨by rw [HR.out.1, HR.out.2]; rfl, hb2.trans ((hbr.trans (hbn.mono hbr.size)).mono hb2.size)⟩
              · have HST : Hid (∀ j (hj : j < l.length), j < k + 1 → elN (nv M) (nv O) (nv l[j]) = true) := fun j hj hjk => by
                  by_cases e : j = k
                  · subst e; rw [hX]; exact hval
                  · exact hv.out j hj (by omega)
                rw [hval] at HH
                clear hval hX hv hvk
                go_wp2_with fail
                go_region_held3 (fun w' => w'.cell? ⟨w.heap.size, 0, none⟩ = some (.string M) ∧ w'.cell? ⟨w.heap.size, 1, none⟩ = some (.string O) ∧ w'.cell? ⟨b, off + k, none⟩ = some (.string X) ∧ Below wr.heap.size wr w')
                  (first | exact ⟨c0, c1, hc, (Below.refl _ wr).drew⟩ | (refine keep3 ?_ bn; assumption))
                  (first | (go_at_call 118; (with_reducible refine (HH.out _).mono ?_); rintro e wn ⟨rfl, bn⟩))
                go_split_ands
                have hbn : Below wr.heap.size wr wn := by assumption
                go_wp2_with fail
                exact ⟨⟨k + 1, by omega, by go_num, HST, hbr.trans (hbn.mono hbr.size)⟩, by simp [intOf]; omega⟩
            · obtain rfl : k = n1 := by omega
              have HEL := Lib.hid (all_of (l := l) (p := fun x => elN (nv M) (nv O) (nv x)) fun j hj => hv.out j hj (by omega))
              have hR0 : gpE M O l es = 0 := by rw [HSM.out, ck_last ⟨HV.out, HVE.out⟩ HG.out, if_pos HEL.out]
              have hR1 : R = 0 := HRS.out.1.symm.trans hR0
              have hS1 : S = enc (pr (prs (nv M) l es) % nv M) := by rw [← HRS.out.2, gpS, hR0, mo_zero]
              have HRR := Lib.hid (And.intro hR1 hS1)
              have HL3 := Lib.hid (HL2.out.below hbr (Nat.le_refl _))
              have HE3 := Lib.hid (HE2.out.below hbr (Nat.le_refl _))
              have hb3 := hb2.trans (hbr.mono hb2.size)
              have hM2 := (gE_ok HG.out).1
              have hm2 := (gE_ok HG.out).2.2.1
              obtain ⟨m, hm⟩ : ∃ m, nv M = m := ⟨_, rfl⟩
              obtain ⟨L, hL⟩ : ∃ L, prs (nv M) l es = L := ⟨_, rfl⟩
              have hLL : L.length = k := by rw [← hL]; exact prs_len h1 h2
              have HP : Hid (∀ j (hj : j < L.length) (hj1 : j < l.length) (hj2 : j < es.length), pwS l[j] es[j].1 es[j].2 M = enc (L[j].1 ^ L[j].2 % m) ∧ validB l[j] = true) := fun j hj hj1 hj2 => by
                have hvk := List.all_eq_true.1 HV.out _ (List.getElem_mem hj1)
                have hek := List.all_eq_true.1 HEL.out _ (List.getElem_mem hj1)
                have hik : ivB (es[j].1, es[j].2) = true := List.all_eq_true.1 HVE.out es[j] (List.getElem_mem hj2)
                refine ⟨?_, hvk⟩
                rw [(pwS_el HG.out hvk hek hik).2]
                subst hL
                rw [prs_get hj hj1 hj2, ← hm]
                simp [List.getD_eq_getElem?_getD, hj1, hj2]
              rw [hL, hm] at HRR
              rw [hm] at hM2 hm2
              have HM2 := Lib.hid hM2
              have one0 : (⟨#[1]⟩ : ByteArray) = enc (pr (L.take 0) % m) := by rw [List.take_zero, lit1]; show enc 1 = enc (1 % m); rw [Nat.mod_eq_of_lt (by omega)]
              clear hv hlt hR0 hR1 hS1 hG2 HL2 HE2 hb2 HEL HBAD HRS HSM hM2 hm hL c0 c1
              go_wp2_with fail
              obtain ⟨wq, rfl⟩ : ∃ wq : World, wq = wr := ⟨_, rfl⟩
              go_loopw [12, 13] (fun v12 i wr => ∃ j : Nat, j ≤ k ∧ v12 = .string (enc (pr (L.take j) % m)) ∧ i = .int .i64 j ∧ Below wq.heap.size wq wr) (fun _ i _ => k - (intOf i).toNat)
              case atStart => exact ⟨0, by omega, by rw [one0], rfl, Below.refl _ _⟩
              case round =>
                clear hbr
                obtain ⟨j, hj, rfl, rfl, hbr⟩ := hrel
                have hG4 := hG3.below hbr hG3.lt
                have c0 := hG4.c0
                have c1 := hG4.c1
                by_cases hlt : j < k
                · have hkl : j < l.length := by omega
                  have hke : j < es.length := by omega
                  have hkL : j < L.length := by omega
                  obtain ⟨b1, o1, rfl, hc⟩ := HL3.out j hkl
                  obtain ⟨b2, o2, rfl, hc1, hc2⟩ := HE3.out j hke
                  obtain ⟨hp1, hp2⟩ := HP.out j hkL hkl hke
                  obtain ⟨X, hX⟩ : ∃ X, l[j] = X := ⟨_, rfl⟩
                  obtain ⟨ng, hng⟩ : ∃ X, es[j].1 = X := ⟨_, rfl⟩
                  obtain ⟨t, ht⟩ : ∃ X, es[j].2 = X := ⟨_, rfl⟩
                  rw [hX, hng, ht] at hp1
                  rw [hX] at hc
                  rw [hng] at hc1
                  rw [ht] at hc2
                  have hc := cellB_below hc hbr (Nat.le_refl _)
                  have hc1 := cellB_below hc1 hbr (Nat.le_refl _)
                  have hc2 := cellB_below hc2 hbr (Nat.le_refl _)
                  have hst := pr_snoc_mod (m := m) L j hkL
                  obtain ⟨P, hP⟩ : ∃ P, pr (L.take j) % m = P := ⟨_, rfl⟩
                  obtain ⟨Q, hQ⟩ : ∃ Q, L[j].1 ^ L[j].2 % m = Q := ⟨_, rfl⟩
                  have hPm : P < m := by rw [← hP]; exact Nat.mod_lt _ (by omega)
                  have hQm : Q < m := by rw [← hQ]; exact Nat.mod_lt _ (by omega)
                  rw [hP, hQ] at hst
                  rw [hQ] at hp1
                  have HRAW := Lib.hid (fun w => r13raw_any M O X ng t w h64)
                  rw [hp1] at HRAW
                  have hmm := refMMul_any (enc P) (enc Q) M
                  rw [chk21 (IsN.mk' (Nat.le_trans (blen_mono (Nat.le_of_lt hPm)) HM2.out.le)) (IsN.mk' (Nat.le_trans (blen_mono (Nat.le_of_lt hQm)) HM2.out.le)) HM2.out (by omega), mo_zero, nv_enc, nv_enc, HM2.out.nv, hst] at hmm
                  have HMM := Lib.hid (fun w => hmm w h64)
                  obtain ⟨SP, hSP⟩ : ∃ SP, enc P = SP := ⟨_, rfl⟩
                  obtain ⟨SQ, hSQ⟩ : ∃ SP, enc Q = SP := ⟨_, rfl⟩
                  rw [hP, hSP]
                  rw [hSP, hSQ] at HMM
                  rw [hSQ] at HRAW
                  have kk : (0 : Int) ≤ (j : Int) := by omega
                  have kl : (j : Int) < (k : Int) := by omega
                  clear hmm hp1 hp2 hX hng ht hst hP hQ hPm hQm hSP hSQ
                  go_wp2_with fail
                  go_region_held3 (fun w' => w'.cell? ⟨w.heap.size, 0, none⟩ = some (.string M) ∧ w'.cell? ⟨w.heap.size, 1, none⟩ = some (.string O) ∧ w'.cell? ⟨b1, o1 + j, none⟩ = some (.string X) ∧ w'.cell? ⟨b2, o2 + j * 2, none⟩ = some (.bool ng) ∧ w'.cell? ⟨b2, o2 + j * 2 + 1, none⟩ = some (.string t) ∧ Below wr.heap.size wr w')
                    (first | exact ⟨c0, c1, hc, hc1, hc2, (Below.refl _ wr).drew⟩ | assumption | (refine keep5 ?_ bn; assumption))
                    (first
                      | (go_at_call 120; (with_reducible refine (HRAW.out _).mono ?_); rintro e wn ⟨rfl, bn⟩)
                      | (go_at_call 119; (with_reducible refine (HMM.out _).mono ?_); rintro e wn ⟨rfl, bn⟩))
                  all_goals
                    go_split_ands
                    have hbn := hbr.trans ((show Below wr.heap.size wr _ by assumption).mono hbr.size)
                    go_wp2_with fail
                    exact ⟨⟨j + 1, by omega, rfl, by go_num, hbn⟩, by simp [intOf]; omega⟩
                · obtain rfl : j = k := by omega
                  rw [List.take_of_length_le (by omega)]
                  go_wp2_with fail
                  go_ret2
                  exact ⟨by rw [HRR.out.1, HRR.out.2]; rfl, hb3.trans (hbr.mono hb3.size)⟩
end Go.Proofs.YtcbamkgomnhdbaaGreatDoor
