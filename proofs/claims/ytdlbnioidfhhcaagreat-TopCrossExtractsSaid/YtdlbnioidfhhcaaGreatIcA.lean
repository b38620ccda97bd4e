import Derived.Test.YtdlbnioidfhhcaaGreatPeA
/- intcommit: numbers, formed, ready, Check, elements, first, five closures of Equal. -/
namespace Go.Proofs.YtdlbnioidfhhcaaGreat
open Go.RowKit Num
set_option maxRecDepth 20000
set_option linter.unusedVariables false
theorem own_four (w : World) (s0 s1 s2 s3 : ByteArray) : (w.alloc (.cells #[.string s0, .string s1, .string s2, .string s3] 22)).ownsRow w.heap.size 22 1 (.slice (some ⟨w.heap.size, 0, none⟩) 4 4) 4 ([s0, s1, s2, s3].map Value.string) :=
  ⟨rfl, .inr ⟨w.heap.size, 4, #[.string s0, .string s1, .string s2, .string s3], rfl, Nat.le_refl _, heap_alloc_new w _, by omega, by unfold maxLen; omega, rfl, rfl⟩⟩
theorem own_weakK {w : World} {K K' e size n : Nat} {v : Value} {xs : List Value} (h : w.ownsRow K e size v n xs) (hb : K' ≤ K) : w.ownsRow K' e size v n xs := by
  rcases h with ⟨h0, h | ⟨g, cap, cur, h1, h2, h3, h4⟩⟩
  · exact ⟨h0, .inl h⟩
  · exact ⟨h0, .inr ⟨g, cap, cur, h1, Nat.le_trans hb h2, h3, h4⟩⟩
theorem inumbers_any (M O G H : ByteArray) (w : World) :
    Calls Tryz.prog 15 #[.agg #[.string M, .string O, .string G, .string H]] w fun e w' => (∃ b, e = .returned (.slice (some ⟨b, 0, none⟩) 4 4) ∧ w'.ownsRow w.heap.size 22 1 (.slice (some ⟨b, 0, none⟩) 4 4) 4 ([M, O, G, H].map Value.string)) ∧ Below w.heap.size w w' := by
  have hb := (Below.refl _ w).alloc (Nat.le_refl _) (.cells #[.string M, .string O, .string G, .string H] 28)
  have hY := KYB.new w M O G H
  have c0 := hY.c0
  have c1 := hY.c1
  have c2 := hY.c2
  have c3 := hY.c3
  have hown := own_four (w.alloc (.cells #[.string M, .string O, .string G, .string H] 28)) M O G H
  have hb2 := hb.alloc hb.size (.cells #[.string M, .string O, .string G, .string H] 22)
  have HW := Lib.hid (own_weakK hown hb.size)
  rw [World.size_alloc] at HW
  clear hY hown
  go_enter Tryz.func15, Tryz.ntmps15
  go_wp2_with fail
  go_ret
  exact ⟨⟨_, rfl, HW.out⟩, hb2⟩
theorem ret_i64 {x y : Int} (h : x = y) : (Ending.returned (.int .i64 x)) = .returned (.int .i64 y) := by rw [h]
set_option maxHeartbeats 1000000 in
theorem iformed_any (ao : Option Addr) (c n : Nat) (l : List ByteArray) (w : World) (hl : NS w ao l) (hn : l.length = n) (h1 : n ≤ maxLen) :
    Calls Tryz.prog 14 #[.slice ao n c] w fun e w' => e = .returned (.int .i64 (if l.all validB = true then 0 else 3)) ∧ Below w.heap.size w w' := by
  unfold maxLen at h1
  have HN := Lib.hid hn
  have HL := Lib.hid hl
  obtain ⟨R, hR⟩ : ∃ R : Bool, l.all validB = R := ⟨_, rfl⟩
  rw [hR]
  obtain ⟨E, hE⟩ : ∃ E : Int, (if R = true then 0 else 3) = E := ⟨_, rfl⟩
  rw [hE]
  have HE := Lib.hid hE
  clear hE
  have H0 : Hid ((l.drop 0).all validB = R) := hR
  clear hn hl hR
  go_enter Tryz.func14, Tryz.ntmps14
  go_wp2_with fail
  go_loopw [7] (fun v7 wr => ∃ k : Nat, k ≤ n ∧ v7 = .int .i64 k ∧ Hid ((l.drop k).all validB = R) ∧ Below w.heap.size w wr) (fun v7 _ => n - (intOf v7).toNat)
  case atStart => exact ⟨0, by omega, rfl, H0, Below.refl _ _⟩
  case round =>
    clear H0
    obtain ⟨k, hk, rfl, hP, hB⟩ := hrel
    by_cases hlt : k < n
    · have hkl : k < l.length := by rw [HN.out]; exact hlt
      obtain ⟨b, off, rfl, d0⟩ := (HL.out.keepL (cells_keepL hB (Nat.le_refl _))) k hkl
      have hw := hP.out
      rw [List.drop_eq_getElem_cons hkl, List.all_cons] at hw
      generalize l[k] = X at d0 hw
      cases he : validB X
      · have HV := Lib.hid (nvalidQ he)
        rw [he, Bool.false_and] at hw
        have HW := Lib.hid hw
        clear hw he hP hkl
        go_wp2_with fail
        refine (HV.out _).mono ?_; rintro e w1 ⟨rfl, rfl⟩
        go_wp2_with fail
        go_ret
        exact ⟨ret_i64 (by rw [← HE.out, ← HW.out]; rfl), hB⟩
      · have HV := Lib.hid (nvalidQ he)
        rw [he, Bool.true_and] at hw
        have HW := Lib.hid hw
        clear hw he hP hkl
        go_wp2_with fail
        refine (HV.out _).mono ?_; rintro e w1 ⟨rfl, rfl⟩
        go_wp2_with fail
        exact ⟨⟨k + 1, by omega, by go_num, HW, hB⟩, by simp [intOf]; omega⟩
    · obtain rfl : k = n := by omega
      have hw := hP.out
      rw [List.drop_of_length_le (by rw [HN.out]; omega), List.all_nil] at hw
      have HW := Lib.hid hw
      clear hP hw
      go_wp2_with fail
      go_ret
      exact ⟨ret_i64 (by rw [← HE.out, ← HW.out]; rfl), hB⟩
theorem iready_any (s t : ByteArray) (w : World) :
    Calls Tryz.prog 24 #[.string s, .string t] w fun e w' => e = .returned (.int .i64 (if emB s = true ∨ emB t = true then 2 else 0)) ∧ Below w.heap.size w w' := by
  cases h1 : emB s <;> cases h2 : emB t
  all_goals
    have e1 := h1
    have e2 := h2
    unfold emB at e1 e2
    go_enter Tryz.func24, Tryz.ntmps24
    go_wp2_with fail
    go_ret
    exact ⟨by simp, Below.refl _ _⟩
set_option maxHeartbeats 1000000 in
theorem icheck_any (M O G H : ByteArray) (w : World) :
    Calls Tryz.prog 19 #[.agg #[.string M, .string O, .string G, .string H]] w fun e w' => e = .returned (.int .i64 (if PK.e ⟨M, O, G, H⟩ = 0 then (if emB O = true then 0 else 10) else PK.e ⟨M, O, G, H⟩)) ∧ Below w.heap.size w w' := by
  have hb := (Below.refl _ w).alloc (Nat.le_refl _) (.cells #[.string M, .string O, .string G, .string H] 28)
  have hY := KYB.new w M O G H
  have c0 := hY.c0
  have c1 := hY.c1
  have c2 := hY.c2
  have c3 := hY.c3
  have HC := Lib.hid (fun w' => pcheck_any M O G H w')
  generalize PK.e ⟨M, O, G, H⟩ = E at HC ⊢
  by_cases hE : E = 0
  · subst hE
    cases h1 : emB O
    all_goals
      have e1 := h1
      unfold emB at e1
      go_enter Tryz.func19, Tryz.ntmps19
      go_wp2_with fail
      refine (HC.out _).mono ?_; rintro e w1 ⟨rfl, b1⟩
      have hb1 := hb.trans (b1.mono hb.size)
      replace c1 := cells_keepL b1 (Nat.le_refl _) _ _ c1
      go_wp2_with fail
      go_ret
      exact ⟨by simp, hb1⟩
  · rw [if_neg hE]
    have ht : (E != 0) = true := by simpa using hE
    clear hE
    go_enter Tryz.func19, Tryz.ntmps19
    go_wp2_with fail
    refine (HC.out _).mono ?_; rintro e w1 ⟨rfl, b1⟩
    have hb1 := hb.trans (b1.mono hb.size)
    go_wp2_with fail
    go_ret
    exact ⟨rfl, hb1⟩
/-- elements of one number -/
theorem ielements_one (M O G H x : ByteArray) (ao : Option Addr) (c : Nat) (w : World) (hl : NS w ao [x]) :
    Calls Tryz.prog 21 #[.agg #[.string M, .string O, .string G, .string H], .slice ao 1 c] w fun e w' => e = .returned (.int .i64 (if hasB M O x = true then 0 else 13)) ∧ Below w.heap.size w w' := by
  obtain ⟨b, off, rfl, d0⟩ := hl 0 (by simp)
  rw [Nat.add_zero] at d0
  simp only [List.getElem_cons_zero] at d0
  have hb := (Below.refl _ w).alloc (Nat.le_refl _) (.cells #[.string M, .string O, .string G, .string H] 28)
  have hY := KYB.new w M O G H
  have c0 := hY.c0
  have c1 := hY.c1
  replace d0 := cells_keepL hb (Nat.le_refl _) _ _ d0
  have HH := Lib.hid (fun w' => gHas_any M O x w')
  clear hl hY
  cases h1 : hasB M O x
  · rw [h1] at HH
    clear h1
    go_enter Tryz.func21, Tryz.ntmps21
    go_wp2_with fail
    refine wp_loop_rounds 2 ?_
    rw [rounds_succ]
    go_wp2_with fail
    refine (HH.out _).mono ?_; rintro e w1 ⟨rfl, b1⟩
    have hb1 := hb.trans (b1.mono hb.size)
    go_wp2_with fail
    go_ret
    exact ⟨rfl, hb1⟩
  · rw [h1] at HH
    clear h1
    go_enter Tryz.func21, Tryz.ntmps21
    go_wp2_with fail
    refine wp_loop_rounds 2 ?_
    rw [rounds_succ]
    go_wp2_with fail
    refine (HH.out _).mono ?_; rintro e w1 ⟨rfl, b1⟩
    have hb1 := hb.trans (b1.mono hb.size)
    go_wp2_with fail
    rw [rounds_succ]
    go_wp2_with fail
    go_ret
    exact ⟨rfl, hb1⟩
/-- the first error of six -/
def fst6 (a b c d e f : Int) : Int := if a = 0 then (if b = 0 then (if c = 0 then (if d = 0 then (if e = 0 then f else e) else d) else c) else b) else a
theorem fst6_zero {a b c d e f : Int} (h : fst6 a b c d e f = 0) : a = 0 ∧ b = 0 ∧ c = 0 ∧ d = 0 ∧ e = 0 ∧ f = 0 := by
  unfold fst6 at h
  by_cases h1 : a = 0
  rotate_left
  · rw [if_neg h1] at h; exact absurd h h1
  rw [if_pos h1] at h
  by_cases h2 : b = 0
  rotate_left
  · rw [if_neg h2] at h; exact absurd h h2
  rw [if_pos h2] at h
  by_cases h3 : c = 0
  rotate_left
  · rw [if_neg h3] at h; exact absurd h h3
  rw [if_pos h3] at h
  by_cases h4 : d = 0
  rotate_left
  · rw [if_neg h4] at h; exact absurd h h4
  rw [if_pos h4] at h
  by_cases h5 : e = 0
  rotate_left
  · rw [if_neg h5] at h; exact absurd h h5
  rw [if_pos h5] at h
  exact ⟨h1, h2, h3, h4, h5, h⟩
set_option maxHeartbeats 8000000 in
theorem ifirst_any (pm pw pa pb pv pr fb c : Nat) (E1 E2 E3 E4 E5 E6 : Int) (w : World)
    (f1 : w.cell? ⟨fb, 0, none⟩ = some (.func (.func 13) #[] #[.pointer (some ⟨pm, 0, none⟩), .pointer (some ⟨pw, 0, none⟩), .pointer (some ⟨pa, 0, none⟩), .pointer (some ⟨pb, 0, none⟩), .pointer (some ⟨pv, 0, none⟩), .pointer (some ⟨pr, 0, none⟩)]))
    (f2 : w.cell? ⟨fb, 1, none⟩ = some (.func (.func 16) #[] #[.pointer (some ⟨pm, 0, none⟩)]))
    (f3 : w.cell? ⟨fb, 2, none⟩ = some (.func (.func 18) #[] #[.pointer (some ⟨pm, 0, none⟩), .pointer (some ⟨pw, 0, none⟩)]))
    (f4 : w.cell? ⟨fb, 3, none⟩ = some (.func (.func 20) #[] #[.pointer (some ⟨pm, 0, none⟩), .pointer (some ⟨pa, 0, none⟩)]))
    (f5 : w.cell? ⟨fb, 4, none⟩ = some (.func (.func 22) #[] #[.pointer (some ⟨pw, 0, none⟩), .pointer (some ⟨pb, 0, none⟩)]))
    (f6 : w.cell? ⟨fb, 5, none⟩ = some (.func (.func 23) #[] #[.pointer (some ⟨pv, 0, none⟩), .pointer (some ⟨pr, 0, none⟩)]))
    (h1 : ∀ w', Below w.heap.size w w' → Calls Tryz.prog 13 #[.pointer (some ⟨pm, 0, none⟩), .pointer (some ⟨pw, 0, none⟩), .pointer (some ⟨pa, 0, none⟩), .pointer (some ⟨pb, 0, none⟩), .pointer (some ⟨pv, 0, none⟩), .pointer (some ⟨pr, 0, none⟩)] w' fun e w2 => e = .returned (.int .i64 E1) ∧ Below w'.heap.size w' w2)
    (h2 : ∀ w', Below w.heap.size w w' → Calls Tryz.prog 16 #[.pointer (some ⟨pm, 0, none⟩)] w' fun e w2 => e = .returned (.int .i64 E2) ∧ Below w'.heap.size w' w2)
    (h3 : ∀ w', Below w.heap.size w w' → Calls Tryz.prog 18 #[.pointer (some ⟨pm, 0, none⟩), .pointer (some ⟨pw, 0, none⟩)] w' fun e w2 => e = .returned (.int .i64 E3) ∧ Below w'.heap.size w' w2)
    (h4 : ∀ w', Below w.heap.size w w' → Calls Tryz.prog 20 #[.pointer (some ⟨pm, 0, none⟩), .pointer (some ⟨pa, 0, none⟩)] w' fun e w2 => e = .returned (.int .i64 E4) ∧ Below w'.heap.size w' w2)
    (h5 : ∀ w', Below w.heap.size w w' → Calls Tryz.prog 22 #[.pointer (some ⟨pw, 0, none⟩), .pointer (some ⟨pb, 0, none⟩)] w' fun e w2 => e = .returned (.int .i64 E5) ∧ Below w'.heap.size w' w2)
    (h6 : ∀ w', Below w.heap.size w w' → Calls Tryz.prog 23 #[.pointer (some ⟨pv, 0, none⟩), .pointer (some ⟨pr, 0, none⟩)] w' fun e w2 => e = .returned (.int .i64 E6) ∧ Below w'.heap.size w' w2) :
    Calls Tryz.prog 12 #[.slice (some ⟨fb, 0, none⟩) 6 c] w fun e w' => e = .returned (.int .i64 (fst6 E1 E2 E3 E4 E5 E6)) ∧ Below w.heap.size w w' := by
  obtain ⟨E, hE⟩ : ∃ E, fst6 E1 E2 E3 E4 E5 E6 = E := ⟨_, rfl⟩
  rw [hE]
  have HE := Lib.hid hE
  clear hE
  have HF := Lib.hid (fun w' (hw : Below w.heap.size w w') => (⟨cells_keepL hw (Nat.le_refl _) _ _ f2, cells_keepL hw (Nat.le_refl _) _ _ f3, cells_keepL hw (Nat.le_refl _) _ _ f4, cells_keepL hw (Nat.le_refl _) _ _ f5, cells_keepL hw (Nat.le_refl _) _ _ f6⟩ : _ ∧ _ ∧ _ ∧ _ ∧ _))
  have H1 := Lib.hid h1
  have H2 := Lib.hid h2
  have H3 := Lib.hid h3
  have H4 := Lib.hid h4
  have H5 := Lib.hid h5
  have H6 := Lib.hid h6
  clear h1 h2 h3 h4 h5 h6
  have hb := Below.refl w.heap.size w
  go_enter Tryz.func12, Tryz.ntmps12
  go_wp2_with fail
  refine wp_loop_rounds 7 ?_
  rw [rounds_succ]
  go_wp2_with fail
  refine (H1.out _ hb).mono ?_; rintro e w1 ⟨rfl, kb⟩
  replace hb := hb.trans (kb.mono hb.size)
  clear kb
  by_cases hz : E1 = 0
  rotate_left
  · have hR : E = E1 := by rw [← HE.out]; unfold fst6; rw [if_neg hz]
    have ht : (E1 != 0) = true := by simpa using hz
    clear hz
    go_wp2_with fail
    go_ret
    exact ⟨ret_i64 hR.symm, hb⟩
  subst hz
  go_wp2_with fail
  rw [rounds_succ]
  clear f1 f2 f3 f4 f5 f6
  obtain ⟨f2, f3, f4, f5, f6⟩ := HF.out _ hb
  go_wp2_with fail
  refine (H2.out _ hb).mono ?_; rintro e w2 ⟨rfl, kb⟩
  replace hb := hb.trans (kb.mono hb.size)
  clear kb
  by_cases hz : E2 = 0
  rotate_left
  · have hR : E = E2 := by rw [← HE.out]; unfold fst6; rw [if_pos rfl, if_neg hz]
    have ht : (E2 != 0) = true := by simpa using hz
    clear hz
    go_wp2_with fail
    go_ret
    exact ⟨ret_i64 hR.symm, hb⟩
  subst hz
  go_wp2_with fail
  rw [rounds_succ]
  clear f2 f3 f4 f5 f6
  obtain ⟨f2, f3, f4, f5, f6⟩ := HF.out _ hb
  go_wp2_with fail
  refine (H3.out _ hb).mono ?_; rintro e w3 ⟨rfl, kb⟩
  replace hb := hb.trans (kb.mono hb.size)
  clear kb
  by_cases hz : E3 = 0
  rotate_left
  · have hR : E = E3 := by rw [← HE.out]; unfold fst6; rw [if_pos rfl, if_pos rfl, if_neg hz]
    have ht : (E3 != 0) = true := by simpa using hz
    clear hz
    go_wp2_with fail
    go_ret
    exact ⟨ret_i64 hR.symm, hb⟩
  subst hz
  go_wp2_with fail
  rw [rounds_succ]
  clear f2 f3 f4 f5 f6
  obtain ⟨f2, f3, f4, f5, f6⟩ := HF.out _ hb
  go_wp2_with fail
  refine (H4.out _ hb).mono ?_; rintro e w4 ⟨rfl, kb⟩
  replace hb := hb.trans (kb.mono hb.size)
  clear kb
  by_cases hz : E4 = 0
  rotate_left
  · have hR : E = E4 := by rw [← HE.out]; unfold fst6; rw [if_pos rfl, if_pos rfl, if_pos rfl, if_neg hz]
    have ht : (E4 != 0) = true := by simpa using hz
    clear hz
    go_wp2_with fail
    go_ret
    exact ⟨ret_i64 hR.symm, hb⟩
  subst hz
  go_wp2_with fail
  rw [rounds_succ]
  clear f2 f3 f4 f5 f6
  obtain ⟨f2, f3, f4, f5, f6⟩ := HF.out _ hb
  go_wp2_with fail
  refine (H5.out _ hb).mono ?_; rintro e w5 ⟨rfl, kb⟩
  replace hb := hb.trans (kb.mono hb.size)
  clear kb
  by_cases hz : E5 = 0
  rotate_left
  · have hR : E = E5 := by rw [← HE.out]; unfold fst6; rw [if_pos rfl, if_pos rfl, if_pos rfl, if_pos rfl, if_neg hz]
    have ht : (E5 != 0) = true := by simpa using hz
    clear hz
    go_wp2_with fail
    go_ret
    exact ⟨ret_i64 hR.symm, hb⟩
  subst hz
  go_wp2_with fail
  rw [rounds_succ]
  clear f2 f3 f4 f5 f6
  obtain ⟨f2, f3, f4, f5, f6⟩ := HF.out _ hb
  go_wp2_with fail
  refine (H6.out _ hb).mono ?_; rintro e w6 ⟨rfl, kb⟩
  replace hb := hb.trans (kb.mono hb.size)
  clear kb
  by_cases hz : E6 = 0
  rotate_left
  · have hR : E = E6 := by rw [← HE.out]; unfold fst6; rw [if_pos rfl, if_pos rfl, if_pos rfl, if_pos rfl, if_pos rfl]
    have ht : (E6 != 0) = true := by simpa using hz
    clear hz
    go_wp2_with fail
    go_ret
    exact ⟨ret_i64 hR.symm, hb⟩
  subst hz
  go_wp2_with fail
  rw [rounds_succ]
  go_wp2_with fail
  go_ret
  exact ⟨ret_i64 (by rw [← HE.out]; rfl), hb⟩
end Go.Proofs.YtdlbnioidfhhcaaGreat
