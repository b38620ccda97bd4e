/- The law PrimeDivides. -/
import Derived.Test.YtjminjliomffaaaDoorLawPr
import Derived.Test.YtjminjliomffaaaDoorPdI
namespace Go.Proofs.YtjminjliomffaaaDoor
open Go.RowKit Num
set_option maxRecDepth 20000
set_option linter.unusedVariables false
theorem enc_is {n : Nat} (hn : n < 4294967296) : isS (enc n) = isB n ∧ smE (enc n) = 0 := by
  have hb4 : blen n ≤ 4 := (blen_le_iff n 4).2 (by omega)
  have hN : IsN (enc n) n := IsN.mk' (by omega)
  have hs : (enc n).size ≤ 8 := by rw [hN.size]; omega
  have hok : okN (enc n) = true := by unfold okN; rw [hN.valid, decide_eq_true hs]; rfl
  exact ⟨by unfold isS; rw [hok, hN.nv]; rfl, by unfold smE; rw [if_pos hN.valid, if_pos hs]⟩
set_option maxHeartbeats 4000000 in
theorem divides_walk (n : Nat) (hn : n < 4294967296) (w : World) (hT : Tab w) :
    Calls Tryd.prog 3 #[.int .u32 (n : Int)] w fun e w' => e = .returned (.bool true) ∧ Below w.heap.size w w' := by
  have HT := Lib.hid hT
  have HO := Lib.hid (fun w => ref4Of_any n w (by omega))
  obtain ⟨e1, e2⟩ := enc_is hn
  have HI := fun w h => prIs_any (enc n) w h
  rw [e1, e2] at HI
  have HI := Lib.hid HI
  have HN := Lib.hid hn
  have z1 : IntKind.u64.wrap (n : Int) = (n : Int) := wraps_u64 _ (by omega) (by omega)
  obtain ⟨S, hS⟩ : ∃ S, enc n = S := ⟨_, rfl⟩
  rw [hS] at HO HI
  clear e1 e2 hS hT
  obtain ⟨b, hb⟩ : ∃ b, decide (2 ≤ n) = b := ⟨_, rfl⟩
  have d0 : decide ((2 : Int) ≤ (n : Int)) = b := by rw [← hb]; exact decide_eq_decide.2 (by omega)
  have HB := Lib.hid hb
  clear hb
  go_enter Tryd.func3, Tryd.ntmps3
  go_wp2_with fail
  go_loopw [3, 4] (fun vw vd wr => ∃ d : Nat, vw = .bool b ∧ vd = .int .u64 (d : Int) ∧ 2 ≤ d ∧ d ≤ 65536 ∧ Hid (noDiv n d) ∧ wr = w) (fun _ vd _ => 65537 - (intOf vd).toNat)
  case atStart => exact ⟨2, rfl, rfl, by omega, by omega, noDiv_two n, rfl⟩
  case round =>
    obtain ⟨d, rfl, rfl, h2, hu, hD, rfl⟩ := hrel
    have hdd : d * d ≤ 65536 * 65536 := Nat.mul_le_mul hu hu
    have o1 : IntKind.u64.wrap ((d : Int) * (d : Int)) = ((d * d : Nat) : Int) := by rw [← Int.natCast_mul]; exact wraps_u64 _ (by omega) (by omega)
    have nz : ((d : Int) == 0) = false := by rw [beq_eq_false_iff_ne]; omega
    have nz2 : ¬ ((d : Int) = 0) := by omega
    have m1 : (n : Int).tmod (d : Int) = ((n % d : Nat) : Int) := by rw [Int.tmod_eq_emod_of_nonneg (by omega)]; simp
    by_cases h : d * d ≤ n
    · have d1 : decide (d * d ≤ n) = true := decide_eq_true h
      have hd5 : d ≤ 65535 := by
        rcases Nat.lt_or_ge 65535 d with h' | h'
        · have : 65536 * 65536 ≤ d * d := Nat.mul_le_mul h' h'
          omega
        · exact h'
      by_cases hd : n % d = 0
      · have hr := div_not HN.out h2 h hd
        rw [hr] at HI
        rw [hd] at m1
        obtain ⟨pp, hpp2⟩ : ∃ pp, d * d = pp := ⟨_, rfl⟩
        rw [hpp2] at o1 d1
        clear hr hd hdd hpp2 h HB hD
        go_wp2_with fail
        refine (HO.out _).mono ?_; rintro e w1 ⟨rfl, b1⟩
        go_wp2_with fail
        refine (HI.out _ (HT.out.below b1)).mono ?_; rintro e w2 ⟨rfl, b2⟩
        have b3 := b1.trans (b2.mono b1.size)
        go_wp2_with fail
        refine (awakeP _ (HT.out.below b3)).mono ?_; rintro e w4 ⟨rfl, b4⟩
        have b5 := b3.trans (b4.mono b3.size)
        go_wp2_with fail
        go_ret
        exact ⟨rfl, b5⟩
      · have HS := Lib.hid (noDiv.step hD.out hd)
        have hd' : ¬ ((n % d : Nat) : Int) = 0 := by omega
        have o2 : IntKind.u64.wrap ((d : Int) + 1) = ((d + 1 : Nat) : Int) := by rw [wraps_u64 _ (by omega) (by omega)]; omega
        obtain ⟨pp, hpp2⟩ : ∃ pp, d * d = pp := ⟨_, rfl⟩
        rw [hpp2] at o1 d1
        obtain ⟨rr, hrr⟩ : ∃ rr, n % d = rr := ⟨_, rfl⟩
        rw [hrr] at m1 hd hd'
        clear hdd hpp2 h hrr
        go_wp2_with fail
        exact ⟨⟨d + 1, by trivial, by go_num, by omega, by omega, HS.out, by trivial⟩, by simp [intOf]; omega⟩
    · have d1 : decide (d * d ≤ n) = false := decide_eq_false h
      have hr := div_want HN.out hD.out (by omega)
      rw [HB.out] at hr
      rw [hr] at HI
      obtain ⟨pp, hpp2⟩ : ∃ pp, d * d = pp := ⟨_, rfl⟩
      rw [hpp2] at o1 d1 h
      clear hr hdd hpp2 HB hD d0
      cases b
      all_goals
        go_wp2_with fail
        refine (HO.out _).mono ?_; rintro e w1 ⟨rfl, b1⟩
        go_wp2_with fail
        refine (HI.out _ (HT.out.below b1)).mono ?_; rintro e w2 ⟨rfl, b2⟩
        have b3 := b1.trans (b2.mono b1.size)
        go_wp2_with fail
        refine (awakeP _ (HT.out.below b3)).mono ?_; rintro e w4 ⟨rfl, b4⟩
        have b5 := b3.trans (b4.mono b3.size)
        go_wp2_with fail
        go_ret
        exact ⟨rfl, b5⟩
theorem divides_row (x : Int) (wx : (Lit.int .u32 x).wf = true) (w : World) (hT : Tab w) :
    Calls Tryd.prog 3 #[.int .u32 x] w fun e w' => e = .returned (.bool true) ∧ Below w.heap.size w w' := by
  have hx : 0 ≤ x ∧ x ≤ 4294967295 := by simpa [Lit.wf, IntKind.min, IntKind.max, IntKind.signed, IntKind.bits] using wx
  obtain ⟨n, rfl⟩ : ∃ n : Nat, x = (n : Int) := ⟨x.toNat, by omega⟩
  exact divides_walk n (by omega) w hT
end Go.Proofs.YtjminjliomffaaaDoor
