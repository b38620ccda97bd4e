/- The reference of layer 13: Has, raw, Mul, Exp. -/
import Derived.Test.YtcjbbneiobnmkaaGreatRgA
import Derived.Test.YtcjbbneiobnmkaaGreatPwF
namespace Go.Proofs.YtcjbbneiobnmkaaGreat
open Go.RowKit Num
set_option maxRecDepth 20000
set_option linter.unusedVariables false
theorem pwS_el {M O s t : ByteArray} {ng : Bool} (h : gE M O = 0) (hv : validB s = true) (he : elN (nv M) (nv O) (nv s) = true) (ht : ivB (ng, t) = true) :
    pwE s ng t M = 0 ∧ pwS s ng t M = enc (sb (nv M) (nv s) ng ^ nv t % nv M) := by
  obtain ⟨hM, hO, h2, h3⟩ := gE_ok h
  have hs := isN_of_valid hv
  unfold ivB at ht
  rw [Bool.and_eq_true, Bool.not_eq_true'] at ht
  have h1 : pwE s ng t M = 0 := by
    unfold pwE
    rw [if_pos ht]
    cases ng
    · rw [if_neg (by decide)]; exact chk11 hs hM (by omega)
    · rw [if_pos rfl]
      unfold ivE
      rw [if_pos (chk11 hs hM (by omega)), if_pos (el_unit he)]
  refine ⟨h1, ?_⟩
  rw [pwS, h1, mo_zero]
  rfl
set_option maxHeartbeats 1000000 in
theorem r13raw_any (M O s : ByteArray) (ng : Bool) (t : ByteArray) (w : World) (h64 : M.size ≤ 64) :
    Calls Tryz.prog 58 #[.agg #[.string M, .string O], .string s, .agg #[.bool ng, .string t]] w fun e w' => e = .returned (.string (pwS s ng t M)) ∧ Below w.heap.size w w' := by
  have hb := ((Below.refl _ w).alloc (Nat.le_refl _) (.cells #[.string M, .string O] 24)).alloc (by simp) (.cells #[.bool ng, .string t] 32)
  have hG := (GB.new w M O).alloc (.cells #[.bool ng, .string t] 32)
  have hI := IB.new (w.alloc (.cells #[.string M, .string O] 24)) ng t
  rw [World.size_alloc] at hI
  go_enter Tryz.func58, Tryz.ntmps58
  go_wp2_with fail
  generalize World.alloc _ _ = w0 at hb hG hI ⊢
  have c0 := hG.c0
  have c1 := hG.c1
  have d0 := hI.c0
  have d1 := hI.c1
  go_wp2_with fail
  refine (refPower_any s ng t M _ h64).mono ?_; rintro e w1 ⟨rfl, b1⟩
  go_wp2_with fail
  go_ret
  exact ⟨rfl, hb.trans (b1.mono hb.size)⟩
set_option maxHeartbeats 1000000 in
theorem r13Has_any (M O s : ByteArray) (w : World) (h64 : M.size ≤ 64) :
    Calls Tryz.prog 19 #[.agg #[.string M, .string O], .string s] w fun e w' => e = .returned (.bool (hasB M O s)) ∧ Below w.heap.size w w' := by
  have hb := (Below.refl _ w).alloc (Nat.le_refl _) (.cells #[.string M, .string O] 24)
  have hG := GB.new w M O
  rcases gE_cases M O with h | h | h
  · cases hv : validB s
    · have hr : hasB M O s = false := by unfold hasB; rw [hv, Bool.false_and, Bool.and_false]
      rw [hr]
      have HE := Lib.hid h
      have HV := Lib.hid hv
      clear hr h hv
      go_enter Tryz.func19, Tryz.ntmps19
      go_wp2_with fail
      generalize w.alloc _ = w0 at hb hG ⊢
      have c0 := hG.c0
      have c1 := hG.c1
      go_wp2_with fail
      refine (r13Check_any M O _).mono ?_; rw [HE.out]; rintro e w1 ⟨rfl, b1⟩
      go_wp2_with fail
      refine (refValid_any s _).mono ?_; rw [HV.out]; rintro e w2 ⟨rfl, rfl⟩
      go_wp2_with fail
      go_ret
      exact ⟨rfl, hb.trans (b1.mono hb.size)⟩
    · have hr : hasB M O s = elN (nv M) (nv O) (nv s) := by unfold hasB; rw [decide_eq_true h, Bool.true_and, hv, Bool.true_and]
      rw [hr]
      have HH := Lib.hid (fun w => r13has_any M O s w h hv h64)
      have HE := Lib.hid h
      have HV := Lib.hid hv
      clear hr h hv
      go_enter Tryz.func19, Tryz.ntmps19
      go_wp2_with fail
      generalize w.alloc _ = w0 at hb hG ⊢
      have c0 := hG.c0
      have c1 := hG.c1
      go_wp2_with fail
      refine (r13Check_any M O _).mono ?_; rw [HE.out]; rintro e w1 ⟨rfl, b1⟩
      have hG1 := hG.below b1 hG.lt
      replace hb := hb.trans (b1.mono hb.size)
      clear b1 hG c0 c1
      have c0 := hG1.c0
      have c1 := hG1.c1
      go_wp2_with fail
      refine (refValid_any s _).mono ?_; rw [HV.out]; rintro e w2 ⟨rfl, rfl⟩
      go_wp2_with fail
      refine (HH.out _).mono ?_; rintro e w2 ⟨rfl, b2⟩
      go_wp2_with fail
      go_ret
      exact ⟨rfl, hb.trans (b2.mono hb.size)⟩
  all_goals
    have hr : hasB M O s = false := by unfold hasB; rw [h]; rfl
    rw [hr]
    have HE := Lib.hid h
    clear hr h
    go_enter Tryz.func19, Tryz.ntmps19
    go_wp2_with fail
    generalize w.alloc _ = w0 at hb hG ⊢
    have c0 := hG.c0
    have c1 := hG.c1
    go_wp2_with fail
    refine (r13Check_any M O _).mono ?_; rw [HE.out]; rintro e w1 ⟨rfl, b1⟩
    go_wp2_with fail
    go_ret
    exact ⟨rfl, hb.trans (b1.mono hb.size)⟩
set_option maxHeartbeats 4000000 in
theorem r13Mul_any (M O a b : ByteArray) (w : World) (h64 : M.size ≤ 64) :
    Calls Tryz.prog 33 #[.agg #[.string M, .string O], .string a, .string b] w fun e w' => e = .returned (.tuple #[.string (gmS M O a b), .int .i64 (gmE M O a b)]) ∧ Below w.heap.size w w' := by
  have hb := (Below.refl _ w).alloc (Nat.le_refl _) (.cells #[.string M, .string O] 24)
  have hG := GB.new w M O
  by_cases hv : ([a, b] : List ByteArray).all validB = true
  · have hva : validB a = true := List.all_eq_true.1 hv a (by simp)
    have hvb : validB b = true := List.all_eq_true.1 hv b (by simp)
    have HA := Lib.hid hva
    have HB := Lib.hid hvb
    rcases gE_cases M O with h | h | h
    rotate_left
    iterate 2
      · have hr : gmE M O a b = gE M O := ck_group ⟨hv, rfl⟩ (by rw [h]; decide)
        rw [gmS, hr, h, mo_bad (by decide)]
        have HE := Lib.hid h
        clear hr h hv hva hvb
        go_enter Tryz.func33, Tryz.ntmps33
        go_wp2_with fail
        generalize w.alloc _ = w0 at hb hG ⊢
        have c0 := hG.c0
        have c1 := hG.c1
        refine (refValid_any _ _).mono ?_; rw [HA.out]; rintro e w1 ⟨rfl, rfl⟩
        go_wp2_with fail
        refine (refValid_any _ _).mono ?_; rw [HB.out]; rintro e w1 ⟨rfl, rfl⟩
        go_wp2_with fail
        refine (r13Check_any M O _).mono ?_; rw [HE.out]; rintro e w1 ⟨rfl, b1⟩
        go_wp2_with fail
        go_ret2
        exact ⟨rfl, hb.trans (b1.mono hb.size)⟩
    have hl : gmE M O a b = if [a, b].all (fun x => elN (nv M) (nv O) (nv x)) = true then 0 else 13 := ck_last ⟨hv, rfl⟩ h
    have HE := Lib.hid h
    have HHA := Lib.hid (fun w => r13has_any M O a w h hva h64)
    have HHB := Lib.hid (fun w => r13has_any M O b w h hvb h64)
    obtain ⟨hM, _, h2, _⟩ := gE_ok h
    cases hea : elN (nv M) (nv O) (nv a)
    · have hr : gmE M O a b = 13 := by rw [hl, if_neg (by simp [hea])]
      rw [gmS, hr, mo_bad (by decide)]
      rw [hea] at HHA
      clear hr hl h hv hva hvb HHB hM h2 hea
      go_enter Tryz.func33, Tryz.ntmps33
      go_wp2_with fail
      generalize w.alloc _ = w0 at hb hG ⊢
      have c0 := hG.c0
      have c1 := hG.c1
      refine (refValid_any _ _).mono ?_; rw [HA.out]; rintro e w1 ⟨rfl, rfl⟩
      go_wp2_with fail
      refine (refValid_any _ _).mono ?_; rw [HB.out]; rintro e w1 ⟨rfl, rfl⟩
      go_wp2_with fail
      refine (r13Check_any M O _).mono ?_; rw [HE.out]; rintro e w1 ⟨rfl, b1⟩
      have hG1 := hG.below b1 hG.lt
      replace hb := hb.trans (b1.mono hb.size)
      clear b1 hG c0 c1
      have c0 := hG1.c0
      have c1 := hG1.c1
      go_wp2_with fail
      refine (HHA.out _).mono ?_; rintro e w1 ⟨rfl, b1⟩
      go_wp2_with fail
      go_ret2
      exact ⟨rfl, hb.trans (b1.mono hb.size)⟩
    rw [hea] at HHA
    cases heb : elN (nv M) (nv O) (nv b)
    · have hr : gmE M O a b = 13 := by rw [hl, if_neg (by simp [heb])]
      rw [gmS, hr, mo_bad (by decide)]
      rw [heb] at HHB
      clear hr hl h hv hva hvb hM h2 hea heb
      go_enter Tryz.func33, Tryz.ntmps33
      go_wp2_with fail
      generalize w.alloc _ = w0 at hb hG ⊢
      have c0 := hG.c0
      have c1 := hG.c1
      refine (refValid_any _ _).mono ?_; rw [HA.out]; rintro e w1 ⟨rfl, rfl⟩
      go_wp2_with fail
      refine (refValid_any _ _).mono ?_; rw [HB.out]; rintro e w1 ⟨rfl, rfl⟩
      go_wp2_with fail
      refine (r13Check_any M O _).mono ?_; rw [HE.out]; rintro e w1 ⟨rfl, b1⟩
      have hG1 := hG.below b1 hG.lt
      replace hb := hb.trans (b1.mono hb.size)
      clear b1 hG c0 c1
      have c0 := hG1.c0
      have c1 := hG1.c1
      go_wp2_with fail
      refine (HHA.out _).mono ?_; rintro e w2 ⟨rfl, b2⟩
      have hG2 := hG1.below b2 hG1.lt
      replace hb := hb.trans (b2.mono hb.size)
      clear b2 hG1 c0 c1
      have c0 := hG2.c0
      have c1 := hG2.c1
      go_wp2_with fail
      refine (HHB.out _).mono ?_; rintro e w1 ⟨rfl, b1⟩
      go_wp2_with fail
      go_ret2
      exact ⟨rfl, hb.trans (b1.mono hb.size)⟩
    rw [heb] at HHB
    have hr : gmE M O a b = 0 := by rw [hl, if_pos (by simp [hea, heb])]
    have hm := refMMul_any a b M
    rw [chk21 (isN_of_valid hva) (isN_of_valid hvb) hM (by omega), mo_zero] at hm
    have HM := Lib.hid (fun w => hm w h64)
    rw [gmS, hr, mo_zero]
    clear hr hl h hv hva hvb hM h2 hea heb hm
    go_enter Tryz.func33, Tryz.ntmps33
    go_wp2_with fail
    generalize w.alloc _ = w0 at hb hG ⊢
    have c0 := hG.c0
    have c1 := hG.c1
    refine (refValid_any _ _).mono ?_; rw [HA.out]; rintro e w1 ⟨rfl, rfl⟩
    go_wp2_with fail
    refine (refValid_any _ _).mono ?_; rw [HB.out]; rintro e w1 ⟨rfl, rfl⟩
    go_wp2_with fail
    refine (r13Check_any M O _).mono ?_; rw [HE.out]; rintro e w1 ⟨rfl, b1⟩
    have hG1 := hG.below b1 hG.lt
    replace hb := hb.trans (b1.mono hb.size)
    clear b1 hG c0 c1
    have c0 := hG1.c0
    have c1 := hG1.c1
    go_wp2_with fail
    refine (HHA.out _).mono ?_; rintro e w2 ⟨rfl, b2⟩
    have hG2 := hG1.below b2 hG1.lt
    replace hb := hb.trans (b2.mono hb.size)
    clear b2 hG1 c0 c1
    have c0 := hG2.c0
    have c1 := hG2.c1
    go_wp2_with fail
    refine (HHB.out _).mono ?_; rintro e w1 ⟨rfl, b1⟩
    have hG1 := hG2.below b1 hG2.lt
    replace hb := hb.trans (b1.mono hb.size)
    clear b1 hG2 c0 c1
    have c0 := hG1.c0
    have c1 := hG1.c1
    go_wp2_with fail
    refine (HM.out _).mono ?_; rintro e w1 ⟨rfl, b1⟩
    go_wp2_with fail
    go_ret2
    exact ⟨rfl, hb.trans (b1.mono hb.size)⟩
  · have hr : gmE M O a b = 3 := ck_three fun h => hv h.1
    rw [gmS, hr, mo_bad (by decide)]
    cases hva : validB a
    · have HA := Lib.hid hva
      clear hr hv hva
      go_enter Tryz.func33, Tryz.ntmps33
      go_wp2_with fail
      refine (refValid_any _ _).mono ?_; rw [HA.out]; rintro e w1 ⟨rfl, rfl⟩
      go_wp2_with fail
      go_ret2
      exact ⟨rfl, hb⟩
    · have hvb : validB b = false := by simpa [hva] using hv
      have HA := Lib.hid hva
      have HB := Lib.hid hvb
      clear hr hv hva hvb
      go_enter Tryz.func33, Tryz.ntmps33
      go_wp2_with fail
      refine (refValid_any _ _).mono ?_; rw [HA.out]; rintro e w1 ⟨rfl, rfl⟩
      go_wp2_with fail
      refine (refValid_any _ _).mono ?_; rw [HB.out]; rintro e w1 ⟨rfl, rfl⟩
      go_wp2_with fail
      go_ret2
      exact ⟨rfl, hb⟩
end Go.Proofs.YtcjbbneiobnmkaaGreat
