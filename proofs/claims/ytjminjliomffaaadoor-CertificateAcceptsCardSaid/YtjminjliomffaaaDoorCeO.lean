/- The law CertificateAccepts. -/
import Derived.Test.YtjminjliomffaaaDoorCeN
import Derived.Test.YtjminjliomffaaaDoorCeL
import Derived.Laws.AppendOwn
namespace Go.Proofs.YtjminjliomffaaaDoor
open Go.RowKit Num
set_option maxRecDepth 20000
set_option linter.unusedVariables false
theorem ok_of_wf {R : List StR} (h : wfAll (R.map stp) = true) (hl : ∀ x ∈ R, x.2.2.2.2.length ≤ maxLen) (hr : R.length ≤ 500000) : ∀ x ∈ R, x.ok := by
  intro x hx
  have hlx := hl x hx
  obtain ⟨k, hk, rfl⟩ := List.mem_iff_getElem.1 hx
  have hw := wfAll_at h hk
  have hi := wfB_idx hw
  generalize R[k] = y at hw hi hlx
  obtain ⟨P, A, fa, fc, F⟩ := y
  have hw' := hw
  unfold wfB stp at hw'
  simp only [Bool.and_eq_true, decide_eq_true_eq] at hw'
  have v1 : ∀ {s : ByteArray}, validB s = true → s.size ≤ maxLen := fun h => by unfold validB at h; have := (of_decide_eq_true h).1; unfold maxLen; omega
  refine ⟨v1 hw'.1, ?_, hlx, fun n hn => ?_⟩
  · have h3 := hw'.2.2
    by_cases hF : F = []
    · rw [if_pos hF] at h3
      have : A.size = 0 := of_decide_eq_true h3
      show A.size ≤ maxLen
      omega
    · rw [if_neg hF] at h3
      simp only [Bool.and_eq_true] at h3
      exact v1 h3.2.1
  · have := hi n hn
    simp [Lit.wf, IntKind.min, IntKind.max, IntKind.signed, IntKind.bits]
    omega
set_option maxHeartbeats 4000000 in
theorem accepts_walk (s : ByteArray) (w : World) (hT : Tab w) (hs : s.size ≤ maxLen) :
    Calls Tryd.prog 4 #[.string s] w fun e w' => e = .returned (.bool true) ∧ Below w.heap.size w w' := by
  have HAw := Lib.hid (fun w h => awakeC w h)
  have HF := Lib.hid (fun w h => ceFind_any s w h)
  obtain ⟨sz, hsz⟩ : ∃ n, s.size = n := ⟨_, rfl⟩
  rw [hsz] at hs
  unfold maxLen at hs
  by_cases h8 : 8 < sz
  · have d1 : decide ((8 : Int) < (sz : Int)) = true := decide_eq_true (by omega)
    go_enter Tryd.func4, Tryd.ntmps4
    go_wp2_with fail
    refine (HAw.out _ hT).mono ?_; rintro e w1 ⟨rfl, b1⟩
    go_wp2_with fail
    go_ret
    exact ⟨rfl, b1⟩
  · have d1 : decide ((8 : Int) < (sz : Int)) = false := decide_eq_false (by omega)
    have d2 : ¬ (8 : Int) < (sz : Int) := by omega
    have HSZ := Lib.hid hsz
    go_enter Tryd.func4, Tryd.ntmps4
    go_wp2_with fail
    refine (HF.out _ hT).mono ?_
    rintro e w1 ⟨⟨a, r, c, R, E, rfl, hr, hCS, hr5, hfl, hFR⟩, b1⟩
    have hT1 := hT.below b1
    have hS := CtB.new w1 (.slice a r c)
    have q1 := (Below.refl _ w1).alloc (Nat.le_refl _) (.cells #[.slice a r c] 33)
    have b2 := b1.trans (q1.mono b1.size)
    have HCS := Lib.hid (hCS.below q1 (Nat.le_refl _))
    have HT1 := Lib.hid (hT1.below q1)
    have HFR := Lib.hid (And.intro hFR (And.intro hr (And.intro hr5 hfl)))
    clear hFR hCS hT1 q1 hr hr5 hfl hsz
    by_cases hE : E = 0
    · subst hE
      have hA : validB s = true ∧ AddL [nv s] [] 0 (R.map stp) := by
        rcases HFR.out.1 with ⟨_, h, _⟩ | ⟨_, h, _⟩ | ⟨h1, _, h2⟩
        · cases h
        · exact absurd rfl h
        · exact ⟨h1, h2⟩
      have hN := isN_of hA.1
      have hn : nv s < 18446744073709551616 := by
        have h1 : blen (nv s) ≤ 8 := by rw [← hN.size, HSZ.out]; omega
        have := (blen_le_iff (nv s) 8).1 h1
        have e : (256 : Nat) ^ 8 = 18446744073709551616 := by decide
        omega
      have hck := find_ck hn hA.2
      have hwf := (ckC_zero hck).1
      have hpr : prC (R.map stp) = s := by
        obtain ⟨T, x, e, hx⟩ := add_last hA.2
        unfold prC
        rw [e, List.getLast?_append]
        simp only [List.getLast?_singleton, Option.some_or]
        rw [hx]; exact hN.eq.symm
      have hok := ok_of_wf hwf HFR.out.2.2.2 (by rw [HFR.out.2.1]; exact HFR.out.2.2.1)
      have HCk := (fun w hT h => ceCheck_any a r c R w hT h HFR.out.2.1 (by rw [HFR.out.2.1]; unfold maxLen; have := HFR.out.2.2.1; omega) hok)
      have HPr := (fun w h => cePrime_any a r c R w h HFR.out.2.1 (by rw [HFR.out.2.1]; unfold maxLen; have := HFR.out.2.2.1; omega))
      rw [hck] at HCk
      rw [hpr] at HPr
      have HCk := Lib.hid HCk
      have HPr := Lib.hid HPr
      clear hA hN hn hck hwf hpr hok
      go_wp2_with fail
      generalize World.alloc _ _ = w3 at hS b2 HCS HT1 ⊢
      refine (HAw.out _ HT1.out).mono ?_; rintro e w4 ⟨rfl, b4⟩
      have c0 := (hS.below b4 hS.lt).c0
      have b5 := b2.trans (b4.mono b2.size)
      go_wp2_with fail
      refine (HCk.out _ (HT1.out.below b4) (HCS.out.below b4 (Nat.le_refl _))).mono ?_; rintro e w6 ⟨rfl, b6⟩
      have b7 := b5.trans (b6.mono b5.size)
      have b8 := b4.trans (b6.mono b4.size)
      have c1 := (hS.below b8 hS.lt).c0
      clear c0
      go_wp2_with fail
      refine (HPr.out _ (HCS.out.below b8 (Nat.le_refl _))).mono ?_; rintro e w9 ⟨rfl, b9⟩
      have b10 := b7.trans (b9.mono b7.size)
      go_wp2_with fail
      go_ret
      exact ⟨rfl, b10⟩
    · have hr0 : r = 0 := by
        have hL : R.map stp = [] := by
          rcases HFR.out.1 with ⟨_, _, h⟩ | ⟨_, _, h, _⟩ | ⟨_, h, _⟩
          · exact h
          · exact h
          · exact absurd h hE
        rw [← HFR.out.2.1]
        have : (R.map stp).length = 0 := by rw [hL]; rfl
        simpa using this
      subst hr0
      have hE2 : (E == 0) = false := by rw [beq_eq_false_iff_ne]; exact hE
      go_wp2_with fail
      generalize World.alloc _ _ = w3 at hS b2 HT1 ⊢
      refine (HAw.out _ HT1.out).mono ?_; rintro e w4 ⟨rfl, b4⟩
      have c0 := (hS.below b4 hS.lt).c0
      have b5 := b2.trans (b4.mono b2.size)
      go_wp2_with fail
      go_ret
      exact ⟨rfl, b5⟩
end Go.Proofs.YtjminjliomffaaaDoor
