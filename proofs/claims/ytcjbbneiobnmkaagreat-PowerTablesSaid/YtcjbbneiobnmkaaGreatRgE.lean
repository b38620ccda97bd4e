/- The reference of layer 13: tables. -/
import Derived.Test.YtcjbbneiobnmkaaGreatRgB
namespace Go.Proofs.YtcjbbneiobnmkaaGreat
open Go.RowKit Num
set_option maxRecDepth 20000
set_option linter.unusedVariables false
set_option maxHeartbeats 4000000 in
theorem r13NewTable_any (M O s : ByteArray) (bits : Int) (w : World) (h64 : M.size ≤ 64) :
    Calls Tryz.prog 26 #[.agg #[.string M, .string O], .string s, .int .i64 bits] w fun e w' => e = .returned (.int .i64 (ntE M O s bits)) ∧ Below w.heap.size w w' := by
  have hb := (Below.refl _ w).alloc (Nat.le_refl _) (.cells #[.string M, .string O] 24)
  have hG := GB.new w M O
  cases hv : validB s
  · have hr : ntE M O s bits = 3 := by unfold ntE; rw [hv]; rfl
    rw [hr]
    have HV := Lib.hid hv
    clear hr hv
    go_enter Tryz.func26, Tryz.ntmps26
    go_wp2_with fail
    refine (refValid_any _ _).mono ?_; rw [HV.out]; rintro e w1 ⟨rfl, rfl⟩
    go_wp2_with fail
    go_ret
    exact ⟨rfl, hb⟩
  have HV := Lib.hid hv
  rcases gE_cases M O with h | h | h
  rotate_left
  iterate 2
    · have hr : ntE M O s bits = gE M O := by unfold ntE; rw [if_pos hv, if_neg (by rw [h]; decide)]
      rw [hr, h]
      have HE := Lib.hid h
      clear hr h hv
      go_enter Tryz.func26, Tryz.ntmps26
      go_wp2_with fail
      generalize w.alloc _ = w0 at hb hG ⊢
      have c0 := hG.c0
      have c1 := hG.c1
      refine (refValid_any _ _).mono ?_; rw [HV.out]; rintro e w1 ⟨rfl, rfl⟩
      go_wp2_with fail
      refine (r13Check_any M O _).mono ?_; rw [HE.out]; rintro e w1 ⟨rfl, b1⟩
      go_wp2_with fail
      go_ret
      exact ⟨rfl, hb.trans (b1.mono hb.size)⟩
  have HE := Lib.hid h
  by_cases hr0 : bits < 0
  · have hr : ntE M O s bits = 2 := by unfold ntE; rw [if_pos hv, if_pos h, if_pos (.inl hr0)]
    rw [hr]
    clear hr h hv
    go_enter Tryz.func26, Tryz.ntmps26
    go_wp2_with fail
    generalize w.alloc _ = w0 at hb hG ⊢
    have c0 := hG.c0
    have c1 := hG.c1
    refine (refValid_any _ _).mono ?_; rw [HV.out]; rintro e w1 ⟨rfl, rfl⟩
    go_wp2_with fail
    refine (r13Check_any M O _).mono ?_; rw [HE.out]; rintro e w1 ⟨rfl, b1⟩
    go_wp2_with fail
    go_ret
    exact ⟨rfl, hb.trans (b1.mono hb.size)⟩
  by_cases hr1 : 1024 < bits
  · have hr : ntE M O s bits = 2 := by unfold ntE; rw [if_pos hv, if_pos h, if_pos (.inr hr1)]
    rw [hr]
    clear hr h hv
    go_enter Tryz.func26, Tryz.ntmps26
    go_wp2_with fail
    generalize w.alloc _ = w0 at hb hG ⊢
    have c0 := hG.c0
    have c1 := hG.c1
    refine (refValid_any _ _).mono ?_; rw [HV.out]; rintro e w1 ⟨rfl, rfl⟩
    go_wp2_with fail
    refine (r13Check_any M O _).mono ?_; rw [HE.out]; rintro e w1 ⟨rfl, b1⟩
    go_wp2_with fail
    go_ret
    exact ⟨rfl, hb.trans (b1.mono hb.size)⟩
  have HH := Lib.hid (fun w => r13has_any M O s w h hv h64)
  have hl : ntE M O s bits = if elN (nv M) (nv O) (nv s) = true then 0 else 13 := by unfold ntE; rw [if_pos hv, if_pos h, if_neg (by omega)]
  cases hea : elN (nv M) (nv O) (nv s)
  all_goals
    have hr := hl
    rw [hea] at hr HH
    rw [hr]
    clear hr h hv hl hea
    go_enter Tryz.func26, Tryz.ntmps26
    go_wp2_with fail
    generalize w.alloc _ = w0 at hb hG ⊢
    have c0 := hG.c0
    have c1 := hG.c1
    refine (refValid_any _ _).mono ?_; rw [HV.out]; rintro e w1 ⟨rfl, rfl⟩
    go_wp2_with fail
    refine (r13Check_any M O _).mono ?_; rw [HE.out]; rintro e w1 ⟨rfl, b1⟩
    have hG1 := hG.below b1 hG.lt
    replace hb := hb.trans (b1.mono hb.size)
    clear b1 hG c0 c1
    have c0 := hG1.c0
    have c1 := hG1.c1
    go_wp2_with fail
    refine (HH.out _).mono ?_; rintro e w1 ⟨rfl, b1⟩
    go_wp2_with fail
    go_ret
    exact ⟨rfl, hb.trans (b1.mono hb.size)⟩
theorem teE_cases (bits : Nat) (s : ByteArray) : teE bits s = 0 ∨ teE bits s = 3 ∨ teE bits s = 5 := by
  unfold teE
  split
  · split <;> simp
  · simp
theorem r13Table_any (M O s e : ByteArray) (bits : Nat) (w : World) (h64 : M.size ≤ 64) :
    Calls Tryz.prog 28 #[.agg #[.string M, .string O], .string s, .int .i64 (bits : Int), .string e] w fun r w' => r = .returned (.tuple #[.string (if teE bits e = 0 then pwS s false e M else ⟨#[]⟩), .int .i64 (teE bits e)]) ∧ Below w.heap.size w w' := by
  have hb := (Below.refl _ w).alloc (Nat.le_refl _) (.cells #[.string M, .string O] 24)
  have hG := GB.new w M O
  cases hv : validB e
  · have hr : teE bits e = 3 := by unfold teE; rw [hv]; rfl
    rw [hr, if_neg (by decide)]
    have HV := Lib.hid hv
    clear hr hv
    go_enter Tryz.func28, Tryz.ntmps28
    go_wp2_with fail
    refine (refValid_any _ _).mono ?_; rw [HV.out]; rintro e w1 ⟨rfl, rfl⟩
    go_wp2_with fail
    go_ret2
    exact ⟨rfl, hb⟩
  have HV := Lib.hid hv
  have he := isN_of_valid hv
  have HB := Lib.hid (fun w => refBits_any e (nv e) w he)
  by_cases hlt : bits < bl (nv e)
  · have hr : teE bits e = 5 := by unfold teE; rw [if_pos hv, if_pos hlt]
    rw [hr, if_neg (by decide)]
    have hd : (bits : Int) < (bl (nv e) : Int) := by omega
    obtain ⟨B, hB⟩ : ∃ B, bl (nv e) = B := ⟨_, rfl⟩
    rw [hB] at HB hd
    clear hr hv he hlt hB
    go_enter Tryz.func28, Tryz.ntmps28
    go_wp2_with fail
    refine (refValid_any _ _).mono ?_; rw [HV.out]; rintro e w1 ⟨rfl, rfl⟩
    go_wp2_with fail
    refine (HB.out _).mono ?_; rintro e w1 ⟨rfl, rfl⟩
    go_wp2_with fail
    go_ret2
    exact ⟨rfl, hb⟩
  · have hr : teE bits e = 0 := by unfold teE; rw [if_pos hv, if_neg hlt]
    rw [hr, if_pos rfl]
    have hd : ¬ ((bits : Int) < (bl (nv e) : Int)) := by omega
    obtain ⟨B, hB⟩ : ∃ B, bl (nv e) = B := ⟨_, rfl⟩
    rw [hB] at HB hd
    clear hr hv he hlt hB
    go_enter Tryz.func28, Tryz.ntmps28
    go_wp2_with fail
    generalize w.alloc _ = w0 at hb hG ⊢
    have c0 := hG.c0
    have c1 := hG.c1
    refine (refValid_any _ _).mono ?_; rw [HV.out]; rintro e w1 ⟨rfl, rfl⟩
    go_wp2_with fail
    refine (HB.out _).mono ?_; rintro e w1 ⟨rfl, rfl⟩
    go_wp2_with fail
    refine (r13raw_any M O s false e _ h64).mono ?_; rintro e w1 ⟨rfl, b1⟩
    go_wp2_with fail
    go_ret2
    exact ⟨rfl, hb.trans (b1.mono hb.size)⟩
end Go.Proofs.YtcjbbneiobnmkaaGreat
