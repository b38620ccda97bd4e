/- The reference of layer 13: Exp, Product. -/
import Derived.Test.YtcjbbneiobnmkaaGreatRgB
namespace Go.Proofs.YtcjbbneiobnmkaaGreat
open Go.RowKit Num
set_option maxRecDepth 20000
set_option linter.unusedVariables false
theorem gpE_single (M O x : ByteArray) (e : Bool × ByteArray) : gpE M O [x] [e] = ckE M O [x] [e] true := rfl
theorem gp_el {M O x t : ByteArray} {ng : Bool} (h : gE M O = 0) (hv : validB x = true) (he : elN (nv M) (nv O) (nv x) = true) (ht : ivB (ng, t) = true) :
    gpE M O [x] [(ng, t)] = 0 ∧ gpS M O [x] [(ng, t)] = pwS x ng t M := by
  have h1 : gpE M O [x] [(ng, t)] = 0 := by
    rw [gpE_single, ck_last ⟨by simp [hv], by simp [ht]⟩ h, if_pos (by simp [he])]
  refine ⟨h1, ?_⟩
  rw [gpS, h1, mo_zero, (pwS_el h hv he ht).2]
  simp [prs, pr]
/-- the boxes of Exp -/
theorem box_ge (w : World) (M O : ByteArray) (ng : Bool) (t : ByteArray) : ∃ w1, (w.alloc (.cells #[.string M, .string O] 24)).alloc (.cells #[.bool ng, .string t] 32) = w1 ∧
    GB w1 w.heap.size M O ∧ IB w1 (w.heap.size + 1) ng t ∧ Below w.heap.size w w1 := by
  refine ⟨_, rfl, (GB.new w M O).alloc _, ?_, ((Below.refl _ w).alloc (Nat.le_refl _) _).alloc (by simp) _⟩
  have := IB.new (w.alloc (.cells #[.string M, .string O] 24)) ng t
  rw [World.size_alloc] at this
  exact this
set_option maxHeartbeats 4000000 in
theorem r13Exp_any (M O x : ByteArray) (ng : Bool) (t : ByteArray) (w : World) (h64 : M.size ≤ 64) :
    Calls Tryz.prog 21 #[.agg #[.string M, .string O], .string x, .agg #[.bool ng, .string t]] w fun e w' => e = .returned (.tuple #[.string (gpS M O [x] [(ng, t)]), .int .i64 (gpE M O [x] [(ng, t)])]) ∧ Below w.heap.size w w' := by
  obtain ⟨w0, hw0, hG, hI, hb⟩ := box_ge w M O ng t
  cases hva : validB x
  · have hr : gpE M O [x] [(ng, t)] = 3 := ck_three fun h => by simp [hva] at h
    rw [gpS, hr, mo_bad (by decide)]
    have HA := Lib.hid hva
    clear hr hva
    go_enter Tryz.func21, Tryz.ntmps21
    go_wp2_with fail
    clear hw0
    refine (refValid_any _ _).mono ?_; rw [HA.out]; rintro e w1 ⟨rfl, rfl⟩
    go_wp2_with fail
    go_ret2
    exact ⟨rfl, hb⟩
  have HA := Lib.hid hva
  cases hvb : ivB (ng, t)
  · have hr : gpE M O [x] [(ng, t)] = 3 := ck_three fun h => by simp [hvb] at h
    rw [gpS, hr, mo_bad (by decide)]
    have HB := Lib.hid (show (validB t && !(ng && t.toList.isEmpty)) = false from hvb)
    clear hr hva hvb
    go_enter Tryz.func21, Tryz.ntmps21
    go_wp2_with fail
    clear hw0
    have d0 := hI.c0
    have d1 := hI.c1
    refine (refValid_any _ _).mono ?_; rw [HA.out]; rintro e w1 ⟨rfl, rfl⟩
    go_wp2_with fail
    refine (ref2Valid_any ng t _).mono ?_; rw [HB.out]; rintro e w1 ⟨rfl, b1⟩
    go_wp2_with fail
    go_ret2
    exact ⟨rfl, hb.trans (b1.mono hb.size)⟩
  have HB := Lib.hid (show (validB t && !(ng && t.toList.isEmpty)) = true from hvb)
  have hvv : ([x] : List ByteArray).all validB = true ∧ ([(ng, t)] : List (Bool × ByteArray)).all ivB = true := ⟨by simp [hva], by simp [hvb]⟩
  rcases gE_cases M O with h | h | h
  rotate_left
  iterate 2
    · have hr : gpE M O [x] [(ng, t)] = gE M O := ck_group hvv (by rw [h]; decide)
      rw [gpS, hr, h, mo_bad (by decide)]
      have HE := Lib.hid h
      clear hr h hva hvb hvv
      go_enter Tryz.func21, Tryz.ntmps21
      go_wp2_with fail
      clear hw0
      have c0 := hG.c0
      have c1 := hG.c1
      have d0 := hI.c0
      have d1 := hI.c1
      refine (refValid_any _ _).mono ?_; rw [HA.out]; rintro e w1 ⟨rfl, rfl⟩
      go_wp2_with fail
      refine (ref2Valid_any ng t _).mono ?_; rw [HB.out]; rintro e w1 ⟨rfl, b1⟩
      have hG1 := hG.below b1 hG.lt
      replace hb := hb.trans (b1.mono hb.size)
      clear b1 hG c0 c1 d0 d1
      have c0 := hG1.c0
      have c1 := hG1.c1
      go_wp2_with fail
      refine (r13Check_any M O _).mono ?_; rw [HE.out]; rintro e w1 ⟨rfl, b1⟩
      go_wp2_with fail
      go_ret2
      exact ⟨rfl, hb.trans (b1.mono hb.size)⟩
  have HE := Lib.hid h
  have HHA := Lib.hid (fun w => r13has_any M O x w h hva h64)
  cases hea : elN (nv M) (nv O) (nv x)
  · have hr : gpE M O [x] [(ng, t)] = 13 := by rw [gpE_single, ck_last hvv h, if_neg (by simp [hea])]
    rw [gpS, hr, mo_bad (by decide)]
    rw [hea] at HHA
    clear hr h hva hvb hvv hea
    go_enter Tryz.func21, Tryz.ntmps21
    go_wp2_with fail
    clear hw0
    have c0 := hG.c0
    have c1 := hG.c1
    have d0 := hI.c0
    have d1 := hI.c1
    refine (refValid_any _ _).mono ?_; rw [HA.out]; rintro e w1 ⟨rfl, rfl⟩
    go_wp2_with fail
    refine (ref2Valid_any ng t _).mono ?_; rw [HB.out]; rintro e w1 ⟨rfl, b1⟩
    have hG1 := hG.below b1 hG.lt
    replace hb := hb.trans (b1.mono hb.size)
    clear b1 hG c0 c1 d0 d1
    have c0 := hG1.c0
    have c1 := hG1.c1
    go_wp2_with fail
    refine (r13Check_any M O _).mono ?_; rw [HE.out]; rintro e w1 ⟨rfl, b1⟩
    have hG2 := hG1.below b1 hG1.lt
    replace hb := hb.trans (b1.mono hb.size)
    clear b1 hG1 c0 c1
    have c0 := hG2.c0
    have c1 := hG2.c1
    go_wp2_with fail
    refine (HHA.out _).mono ?_; rintro e w2 ⟨rfl, b2⟩
    go_wp2_with fail
    go_ret2
    exact ⟨rfl, hb.trans (b2.mono hb.size)⟩
  rw [hea] at HHA
  obtain ⟨e1, e2⟩ := gp_el h hva hea hvb
  rw [e1, e2]
  clear h hva hvb hvv hea e1 e2
  go_enter Tryz.func21, Tryz.ntmps21
  go_wp2_with fail
  clear hw0
  have c0 := hG.c0
  have c1 := hG.c1
  have d0 := hI.c0
  have d1 := hI.c1
  refine (refValid_any _ _).mono ?_; rw [HA.out]; rintro e w1 ⟨rfl, rfl⟩
  go_wp2_with fail
  refine (ref2Valid_any ng t _).mono ?_; rw [HB.out]; rintro e w1 ⟨rfl, b1⟩
  have hG1 := hG.below b1 hG.lt
  have hI1 := hI.below b1 hI.lt
  replace hb := hb.trans (b1.mono hb.size)
  clear b1 hG hI c0 c1 d0 d1
  have c0 := hG1.c0
  have c1 := hG1.c1
  go_wp2_with fail
  refine (r13Check_any M O _).mono ?_; rw [HE.out]; rintro e w1 ⟨rfl, b1⟩
  have hG2 := hG1.below b1 hG1.lt
  have hI2 := hI1.below b1 hI1.lt
  replace hb := hb.trans (b1.mono hb.size)
  clear b1 hG1 hI1 c0 c1
  have c0 := hG2.c0
  have c1 := hG2.c1
  go_wp2_with fail
  refine (HHA.out _).mono ?_; rintro e w2 ⟨rfl, b2⟩
  have hG1 := hG2.below b2 hG2.lt
  have hI1 := hI2.below b2 hI2.lt
  replace hb := hb.trans (b2.mono hb.size)
  clear b2 hG2 hI2 c0 c1
  have c0 := hG1.c0
  have c1 := hG1.c1
  have d0 := hI1.c0
  have d1 := hI1.c1
  go_wp2_with fail
  refine (r13raw_any M O x ng t _ h64).mono ?_; rintro e w2 ⟨rfl, b2⟩
  go_wp2_with fail
  go_ret2
  exact ⟨rfl, hb.trans (b2.mono hb.size)⟩
end Go.Proofs.YtcjbbneiobnmkaaGreat
