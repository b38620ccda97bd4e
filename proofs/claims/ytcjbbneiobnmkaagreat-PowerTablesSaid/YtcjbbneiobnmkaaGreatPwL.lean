/- The laws Checks, Multiplies, Exps, Products of layer 13. -/
import Derived.Test.YtcjbbneiobnmkaaGreatPwF
import Derived.Test.YtcjbbneiobnmkaaGreatRgD
import Derived.Test.YtcjbbneiobnmkaaGreatRgE
namespace Go.Proofs.YtcjbbneiobnmkaaGreat
open Go.RowKit Num
set_option maxRecDepth 20000
set_option linter.unusedVariables false
theorem few9_M {M O : ByteArray} {l : List ByteArray} (h : few9 M O l = true) : M.size ≤ 64 := by
  unfold few9 at h
  rw [Bool.and_eq_true] at h
  have := of_decide_eq_true h.2
  omega
theorem few13_M {M O : ByteArray} {l : List ByteArray} {es : List (Bool × ByteArray)} (h : few13 M O l es = true) : M.size ≤ 64 ∧ l.length ≤ 8 ∧ es.length ≤ 8 := by
  unfold few13 at h
  rw [Bool.and_eq_true, Bool.and_eq_true, Bool.and_eq_true] at h
  exact ⟨few9_M h.2.2.2, of_decide_eq_true h.2.1, of_decide_eq_true h.2.2.1⟩
set_option maxHeartbeats 8000000 in
theorem checks_walk (M O s : ByteArray) (w : World) (h3 : s.size ≤ maxLen) :
    Calls Tryz.prog 3 #[.agg #[.string M, .string O], .string s] w fun e w' => e = .returned (.bool true) ∧ Below w.heap.size w w' := by
  have HFA := Lib.hid (fun w ao1 (h : NS w ao1 [s]) => few9_any M O ao1 1 1 [s] w h rfl (by unfold maxLen; omega) (by simpa using h3))
  have hG := (GB.new w M O).alloc (.cells #[.string s] 22)
  have hb := ((Below.refl w.heap.size w).alloc (Nat.le_refl _) (.cells #[.string M, .string O] 24)).alloc (by simp) (.cells #[.string s] 22)
  have hN1 := ns_one (w.alloc (.cells #[.string M, .string O] 24)) s
  rw [World.size_alloc] at hN1
  clear h3
  cases hf1 : few9 M O [s]
  · have HF1 := Lib.hid hf1
    clear hf1
    go_enter Tryz.func3, Tryz.ntmps3
    go_wp2_with fail
    generalize World.alloc (World.alloc w _) _ = w1 at hG hb hN1 ⊢
    refine (HFA.out _ _ hN1).mono ?_; rw [HF1.out]; rintro e w2 ⟨rfl, b2⟩
    have hb2 := hb.trans (b2.mono hb.size)
    go_wp2_with fail
    refine (awakeG _).mono ?_; rintro e wa ⟨rfl, ba⟩
    go_wp2_with fail
    go_ret
    exact ⟨rfl, hb2.trans (ba.mono hb2.size)⟩
  have HF1 := Lib.hid hf1
  have h64 := few9_M hf1
  have HE1 := Lib.hid (fun w => gCheck_any M O w)
  have HE2 := Lib.hid (fun w => r13Check_any M O w)
  have HH1 := Lib.hid (fun w => gHas_any M O s w)
  have HH2 := Lib.hid (fun w => r13Has_any M O s w h64)
  cases hh : hasB M O s <;> rcases gE_cases M O with hg | hg | hg
  all_goals
    rw [hg] at HE1 HE2
    rw [hh] at HH1 HH2
    clear hg hh h64 hf1
    go_enter Tryz.func3, Tryz.ntmps3
    go_wp2_with fail
    generalize World.alloc (World.alloc w _) _ = w1 at hG hb hN1 ⊢
    refine (HFA.out _ _ hN1).mono ?_; rw [HF1.out]; rintro e w2 ⟨rfl, b2⟩
    have hb2 := hb.trans (b2.mono hb.size)
    have hG2 := hG.below b2 hG.lt
    have c0 := hG2.c0
    have c1 := hG2.c1
    clear hG hb hN1 b2 HFA HF1
    go_wp2_with fail
    go_region_held3 (fun w' => w'.cell? ⟨w.heap.size, 0, none⟩ = some (.string M) ∧ w'.cell? ⟨w.heap.size, 1, none⟩ = some (.string O) ∧ GB w' w.heap.size M O ∧ Below w.heap.size w w')
      (first | exact ⟨c0, c1, hG2, hb2.drew⟩ | (refine keepG ?_ bn; assumption))
      (first
        | (go_at_call 16; (with_reducible refine (HE1.out _).mono ?_); rintro e wn ⟨rfl, bn⟩)
        | (go_at_call 17; (with_reducible refine (HE2.out _).mono ?_); rintro e wn ⟨rfl, bn⟩)
        | (go_at_call 18; (with_reducible refine (HH1.out _).mono ?_); rintro e wn ⟨rfl, bn⟩)
        | (go_at_call 19; (with_reducible refine (HH2.out _).mono ?_); rintro e wn ⟨rfl, bn⟩)
        | (go_at_call 15; (with_reducible refine (awakeG _).mono ?_); rintro e wn ⟨rfl, bn⟩))
    all_goals (go_split_ands; go_wp2_with fail; go_ret; exact ⟨rfl, by assumption⟩)
set_option maxHeartbeats 8000000 in
theorem mults_walk (M O x y : ByteArray) (w : World) (h3 : x.size ≤ maxLen) (h4 : y.size ≤ maxLen) :
    Calls Tryz.prog 7 #[.agg #[.string M, .string O], .string x, .string y] w fun e w' => e = .returned (.bool true) ∧ Below w.heap.size w w' := by
  have HFA := Lib.hid (fun w ao1 (h : NS w ao1 [x, y]) => few9_any M O ao1 2 2 [x, y] w h rfl (by unfold maxLen; omega) (by simpa using ⟨h3, h4⟩))
  have hG := (GB.new w M O).alloc (.cells #[.string x, .string y] 22)
  have hb := ((Below.refl w.heap.size w).alloc (Nat.le_refl _) (.cells #[.string M, .string O] 24)).alloc (by simp) (.cells #[.string x, .string y] 22)
  have hN1 := ns_two (w.alloc (.cells #[.string M, .string O] 24)) x y
  rw [World.size_alloc] at hN1
  clear h3 h4
  cases hf1 : few9 M O [x, y]
  · have HF1 := Lib.hid hf1
    clear hf1
    go_enter Tryz.func7, Tryz.ntmps7
    go_wp2_with fail
    generalize World.alloc (World.alloc w _) _ = w1 at hG hb hN1 ⊢
    refine (HFA.out _ _ hN1).mono ?_; rw [HF1.out]; rintro e w2 ⟨rfl, b2⟩
    have hb2 := hb.trans (b2.mono hb.size)
    go_wp2_with fail
    refine (awakeG _).mono ?_; rintro e wa ⟨rfl, ba⟩
    go_wp2_with fail
    go_ret
    exact ⟨rfl, hb2.trans (ba.mono hb2.size)⟩
  have HF1 := Lib.hid hf1
  have h64 := few9_M hf1
  have HE1 := Lib.hid (fun w => gMul_any M O x y w)
  have HE2 := Lib.hid (fun w => r13Mul_any M O x y w h64)
  obtain ⟨S, hS⟩ : ∃ S, gmS M O x y = S := ⟨_, rfl⟩
  obtain ⟨E, hE⟩ : ∃ E, gmE M O x y = E := ⟨_, rfl⟩
  rw [hS, hE] at HE1 HE2
  clear hS hE h64 hf1
  go_enter Tryz.func7, Tryz.ntmps7
  go_wp2_with fail
  generalize World.alloc (World.alloc w _) _ = w1 at hG hb hN1 ⊢
  refine (HFA.out _ _ hN1).mono ?_; rw [HF1.out]; rintro e w2 ⟨rfl, b2⟩
  have hb2 := hb.trans (b2.mono hb.size)
  have hG2 := hG.below b2 hG.lt
  have c0 := hG2.c0
  have c1 := hG2.c1
  clear hG hb hN1 b2 HFA HF1
  go_wp2_with fail
  refine (HE1.out _).mono ?_; rintro e w3 ⟨rfl, b3⟩
  have hb3 := hb2.trans (b3.mono hb2.size)
  have hG3 := hG2.below b3 hG2.lt
  clear c0 c1 hG2 hb2 b3
  have c0 := hG3.c0
  have c1 := hG3.c1
  go_wp2_with fail
  refine (HE2.out _).mono ?_; rintro e w4 ⟨rfl, b4⟩
  have hb4 := hb3.trans (b4.mono hb3.size)
  clear c0 c1 hG3 hb3 b4
  go_wp2_with fail
  refine (awakeG _).mono ?_; rintro e wa ⟨rfl, ba⟩
  go_wp2_with fail
  go_ret
  exact ⟨rfl, hb4.trans (ba.mono hb4.size)⟩
set_option maxHeartbeats 8000000 in
theorem exps_walk (M O x : ByteArray) (ng : Bool) (t : ByteArray) (w : World) (h3 : x.size ≤ maxLen) (h4 : t.size ≤ maxLen) :
    Calls Tryz.prog 4 #[.agg #[.string M, .string O], .string x, .agg #[.bool ng, .string t]] w fun e w' => e = .returned (.bool true) ∧ Below w.heap.size w w' := by
  have HFA := Lib.hid (fun w ao1 (h : NS w ao1 [x, t]) => few9_any M O ao1 2 2 [x, t] w h rfl (by unfold maxLen; omega) (by simpa using ⟨h3, h4⟩))
  obtain ⟨w0, hw0, hG0, hI0, hb0⟩ := box_ge w M O ng t
  have hG := hG0.alloc (.cells #[.string x, .string t] 22)
  have hI : IB (w0.alloc (.cells #[.string x, .string t] 22)) (w.heap.size + 1) ng t := (Below.heap_alloc w0 _ _ hI0.lt).trans hI0
  have hb := hb0.alloc hb0.size (.cells #[.string x, .string t] 22)
  have hN1 := ns_two w0 x t
  clear h3 h4
  cases hf1 : few9 M O [x, t]
  · have HF1 := Lib.hid hf1
    clear hf1
    have c0 := hG0.c0
    have c1 := hG0.c1
    have d1 := hI0.c1
    go_enter Tryz.func4, Tryz.ntmps4
    go_wp2_with fail
    generalize World.alloc w0 _ = w1 at hG hb hN1 ⊢
    refine (HFA.out _ _ hN1).mono ?_; rw [HF1.out]; rintro e w2 ⟨rfl, b2⟩
    have hb2 := hb.trans (b2.mono hb.size)
    go_wp2_with fail
    refine (awakeG _).mono ?_; rintro e wa ⟨rfl, ba⟩
    go_wp2_with fail
    go_ret
    exact ⟨rfl, hb2.trans (ba.mono hb2.size)⟩
  have HF1 := Lib.hid hf1
  have h64 := few9_M hf1
  have HE1 := Lib.hid (fun w => gExp_any M O x ng t w)
  have HE2 := Lib.hid (fun w => r13Exp_any M O x ng t w h64)
  obtain ⟨S, hS⟩ : ∃ S, gpS M O [x] [(ng, t)] = S := ⟨_, rfl⟩
  obtain ⟨E, hE⟩ : ∃ E, gpE M O [x] [(ng, t)] = E := ⟨_, rfl⟩
  rw [hS, hE] at HE1 HE2
  clear hS hE h64 hf1
  have d1 := hI0.c1
  have c0 := hG0.c0
  have c1 := hG0.c1
  go_enter Tryz.func4, Tryz.ntmps4
  go_wp2_with fail
  generalize World.alloc w0 _ = w1 at hG hb hN1 hI ⊢
  refine (HFA.out _ _ hN1).mono ?_; rw [HF1.out]; rintro e w2 ⟨rfl, b2⟩
  have hb2 := hb.trans (b2.mono hb.size)
  have hG2 := hG.below b2 hG.lt
  have hI2 := hI.below b2 hI.lt
  clear c0 c1 d1
  have c0 := hG2.c0
  have c1 := hG2.c1
  have d0 := hI2.c0
  have d1 := hI2.c1
  clear hG hb hN1 b2 HFA HF1 hw0 hb0 hG0 hI0 hI
  go_wp2_with fail
  refine (HE1.out _).mono ?_; rintro e w3 ⟨rfl, b3⟩
  have hb3 := hb2.trans (b3.mono hb2.size)
  have hG3 := hG2.below b3 hG2.lt
  have hI3 := hI2.below b3 hI2.lt
  clear c0 c1 d0 d1 hG2 hI2 hb2 b3
  have c0 := hG3.c0
  have c1 := hG3.c1
  have d0 := hI3.c0
  have d1 := hI3.c1
  go_wp2_with fail
  refine (HE2.out _).mono ?_; rintro e w4 ⟨rfl, b4⟩
  have hb4 := hb3.trans (b4.mono hb3.size)
  clear c0 c1 d0 d1 hG3 hI3 hb3 b4
  go_wp2_with fail
  refine (awakeG _).mono ?_; rintro e wa ⟨rfl, ba⟩
  go_wp2_with fail
  go_ret
  exact ⟨rfl, hb4.trans (ba.mono hb4.size)⟩
set_option maxHeartbeats 8000000 in
theorem products_walk (M O : ByteArray) (ao bo : Option Addr) (cl ce n1 n2 : Nat) (l : List ByteArray) (es : List (Bool × ByteArray)) (w : World) (hl : NS w ao l) (he : IS w bo es) (hn1 : l.length = n1) (hn2 : es.length = n2) (h1 : n1 ≤ maxLen) (h2 : n2 ≤ maxLen) (h3 : ∀ x ∈ l, x.size ≤ maxLen) (h4 : ∀ e ∈ es, e.2.size ≤ maxLen) :
    Calls Tryz.prog 5 #[.agg #[.string M, .string O], .slice ao n1 cl, .slice bo n2 ce] w fun e w' => e = .returned (.bool true) ∧ Below w.heap.size w w' := by
  have HF := Lib.hid (fun w a b => few13_any M O ao bo cl ce n1 n2 l es w a b hn1 hn2 h1 h2 h3 h4)
  have hb := (Below.refl _ w).alloc (Nat.le_refl _) (.cells #[.string M, .string O] 24)
  have hG := GB.new w M O
  have HL := Lib.hid (hl.below hb (Nat.le_refl _))
  have HS := Lib.hid (he.below hb (Nat.le_refl _))
  clear hl he h1 h2 h3 h4
  cases hf : few13 M O l es
  · have HF1 := Lib.hid hf
    clear hf
    go_enter Tryz.func5, Tryz.ntmps5
    go_wp2_with fail
    generalize w.alloc _ = w1 at hb hG HL HS ⊢
    have c0 := hG.c0
    have c1 := hG.c1
    go_wp2_with fail
    refine (HF.out _ HL.out HS.out).mono ?_; rw [HF1.out]; rintro e w2 ⟨rfl, b2⟩
    have hb2 := hb.trans (b2.mono hb.size)
    go_wp2_with fail
    refine (awakeG _).mono ?_; rintro e wa ⟨rfl, ba⟩
    go_wp2_with fail
    go_ret
    exact ⟨rfl, hb2.trans (ba.mono hb2.size)⟩
  have HF1 := Lib.hid hf
  obtain ⟨h64, l1, l2⟩ := few13_M hf
  have HE1 := Lib.hid (fun w a b => gProduct_any M O ao bo cl ce n1 n2 l es w a b hn1 hn2 (by omega) (by omega))
  have HE2 := Lib.hid (fun w a b => r13Product_any M O ao bo cl ce n1 n2 l es w a b hn1 hn2 (by omega) (by omega) h64)
  obtain ⟨S, hS⟩ : ∃ S, gpS M O l es = S := ⟨_, rfl⟩
  obtain ⟨E, hE⟩ : ∃ E, gpE M O l es = E := ⟨_, rfl⟩
  rw [hS, hE] at HE1 HE2
  clear hS hE h64 hf l1 l2
  go_enter Tryz.func5, Tryz.ntmps5
  go_wp2_with fail
  generalize w.alloc _ = w1 at hb hG HL HS ⊢
  have c0 := hG.c0
  have c1 := hG.c1
  go_wp2_with fail
  refine (HF.out _ HL.out HS.out).mono ?_; rw [HF1.out]; rintro e w2 ⟨rfl, b2⟩
  have hb2 := hb.trans (b2.mono hb.size)
  have hG2 := hG.below b2 hG.lt
  have HL2 := Lib.hid (HL.out.below b2 (Nat.le_refl _))
  have HS2 := Lib.hid (HS.out.below b2 (Nat.le_refl _))
  clear hG hb b2 HF HF1 HL HS c0 c1
  have c0 := hG2.c0
  have c1 := hG2.c1
  go_wp2_with fail
  refine (HE1.out _ HL2.out HS2.out).mono ?_; rintro e w3 ⟨rfl, b3⟩
  have hb3 := hb2.trans (b3.mono hb2.size)
  have hG3 := hG2.below b3 hG2.lt
  have HL3 := Lib.hid (HL2.out.below b3 (Nat.le_refl _))
  have HS3 := Lib.hid (HS2.out.below b3 (Nat.le_refl _))
  clear c0 c1 hG2 hb2 b3 HL2 HS2
  have c0 := hG3.c0
  have c1 := hG3.c1
  go_wp2_with fail
  refine (HE2.out _ HL3.out HS3.out).mono ?_; rintro e w4 ⟨rfl, b4⟩
  have hb4 := hb3.trans (b4.mono hb3.size)
  clear c0 c1 hG3 hb3 b4
  go_wp2_with fail
  refine (awakeG _).mono ?_; rintro e wa ⟨rfl, ba⟩
  go_wp2_with fail
  go_ret
  exact ⟨rfl, hb4.trans (ba.mono hb4.size)⟩
end Go.Proofs.YtcjbbneiobnmkaaGreat
