/- dominolaw12: the walks of TranscriptChallenges and TranscriptBounds. -/
import Derived.Test.YtdiiggmcdpiahaaChalRef
namespace Go.Proofs.Ytdiiggmcdpiahaa
open Go.RowKit Num
set_option maxRecDepth 20000
set_option linter.unusedVariables false

theorem size_chS (st : List UInt8) (v : ByteArray) : (chS st v).size ≤ 128 := by
  unfold chS
  split
  · rename_i h
    have hn := isN_of_valid h.1
    have hp : 0 < nv v := by
      rcases Nat.eq_zero_or_pos (nv v) with h' | h'
      · rw [h'] at hn; have := hn.size; rw [blen_zero] at this; exact absurd this h.2
      · exact h'
    rw [size_enc]
    exact Nat.le_trans (blen_mono (Nat.le_of_lt (Nat.mod_lt _ hp))) hn.le
  · show 0 ≤ 128; omega
set_option maxHeartbeats 1000000 in
theorem challenges_walk (a b : List UInt8) (w : World) (ha : a.length ≤ maxLen) (hb : b.length ≤ maxLen) :
    Calls Try.prog 3 #[.string (str a), .string (str b)] w fun e w' => e = .returned (.bool true) ∧ Below w.heap.size w w' := by
  have hl := long2 a b w ha hb
  by_cases h : 600 < lsum [a, b]
  · rw [decide_eq_true h] at hl
    have HL := Lib.hid hl
    clear hl
    go_enter Try.func3, Try.ntmps3
    go_wp2_with fail
    refine HL.out.mono ?_
    rintro e w1 ⟨rfl, hb1⟩
    go_wp2_with fail
    refine (awake_any _).mono ?_
    rintro e w2 ⟨rfl, hb2⟩
    go_wp2_with fail
    go_ret
    exact ⟨rfl, hb1.trans (hb2.mono hb1.size)⟩
  · rw [decide_eq_false h] at hl
    have HL := Lib.hid hl
    have hs := short_of h
    have ha6 : a.length ≤ 600 := hs a (by simp)
    clear hl hs h
    go_enter Try.func3, Try.ntmps3
    go_wp2_with fail
    refine HL.out.mono ?_
    rintro e w1 ⟨rfl, hb1⟩
    go_wp2_with fail
    refine (Challenge_any a (str b) _ (by omega)).mono ?_
    rintro e w2 ⟨rfl, hb2⟩
    go_wp2_with fail
    refine (refChallenge_any a (str b) _ (by omega)).mono ?_
    rintro e w3 ⟨rfl, hb3⟩
    go_wp2_with fail
    refine (awake_any _).mono ?_
    rintro e w4 ⟨rfl, hb4⟩
    go_wp2_with fail
    go_ret
    have z1 := hb1.size
    have z2 := hb2.size
    have z3 := hb3.size
    exact ⟨rfl, bch (bch (bch hb1 z1 hb2) (by omega) hb3) (by omega) hb4⟩
set_option maxHeartbeats 1000000 in
theorem bounds_walk (a b : List UInt8) (w : World) (ha : a.length ≤ maxLen) (hb : b.length ≤ maxLen) :
    Calls Try.prog 4 #[.string (str a), .string (str b)] w fun e w' => e = .returned (.bool true) ∧ Below w.heap.size w w' := by
  have hl := long2 a b w ha hb
  by_cases h : 600 < lsum [a, b]
  · rw [decide_eq_true h] at hl
    have HL := Lib.hid hl
    clear hl
    go_enter Try.func4, Try.ntmps4
    go_wp2_with fail
    refine HL.out.mono ?_
    rintro e w1 ⟨rfl, hb1⟩
    go_wp2_with fail
    refine (awake_any _).mono ?_
    rintro e w2 ⟨rfl, hb2⟩
    go_wp2_with fail
    go_ret
    exact ⟨rfl, hb1.trans (hb2.mono hb1.size)⟩
  · rw [decide_eq_false h] at hl
    have HL := Lib.hid hl
    have hs := short_of h
    have ha6 : a.length ≤ 600 := hs a (by simp)
    clear hl hs h
    by_cases hv : validB (str b) = true
    · by_cases h0 : (str b).size = 0
      · have hb0 : str b = ⟨#[]⟩ := size_zero h0
        rw [hb0] at HL hv ⊢
        have HV := Lib.hid hv
        clear hv h0
        go_enter Try.func4, Try.ntmps4
        go_wp2_with fail
        refine HL.out.mono ?_
        rintro e w1 ⟨rfl, hb1⟩
        go_wp2_with fail
        refine (refValid_any _ _).mono ?_
        rw [HV.out]
        rintro e w' ⟨rfl, rfl⟩
        go_wp2_with fail
        refine (awake_any _).mono ?_
        rintro e w2 ⟨rfl, hb2⟩
        go_wp2_with fail
        go_ret
        exact ⟨rfl, hb1.trans (hb2.mono hb1.size)⟩
      · obtain ⟨ne1, ne2⟩ := toList_ne h0
        have hn := isN_of_valid hv
        have hp : 0 < nv (str b) := by
          rcases Nat.eq_zero_or_pos (nv (str b)) with h' | h'
          · rw [h'] at hn; have := hn.size; rw [blen_zero] at this; exact absurd this h0
          · exact h'
        have e1 : chS a (str b) = enc (nvL (chb a ((str b).size + 8)) % nv (str b)) := by unfold chS; rw [if_pos ⟨hv, h0⟩]
        have e2 : chE (str b) = 0 := by unfold chE; rw [if_pos hv, if_neg h0]
        have hch : ∀ w, Calls Try.prog 12 #[.string (str a), .string (str b)] w fun e w' => e = .returned (.tuple #[.string (enc (nvL (chb a ((str b).size + 8)) % nv (str b))), .int .i64 0]) ∧ Below w.heap.size w w' := fun w => by
          have := Challenge_any a (str b) w (by omega)
          rw [e1, e2] at this
          exact this
        have hlt := Nat.mod_lt (nvL (chb a ((str b).size + 8))) hp
        obtain ⟨x, hx⟩ : ∃ x, nvL (chb a ((str b).size + 8)) % nv (str b) = x := ⟨_, rfl⟩
        rw [hx] at hch hlt
        have hxn : IsN (enc x) x := IsN.mk' (Nat.le_trans (blen_mono (Nat.le_of_lt hlt)) hn.le)
        have hcm := (ncmp_lt x (nv (str b))).2 hlt
        have hbs := hn.small
        have HV := Lib.hid hv
        have HCH := Lib.hid hch
        have HXN := Lib.hid hxn
        have HN := Lib.hid hn
        clear hv hch e1 e2 hx hlt hxn hn h0
        go_enter Try.func4, Try.ntmps4
        go_wp2_with fail
        refine HL.out.mono ?_
        rintro e w1 ⟨rfl, hb1⟩
        go_wp2_with fail
        refine (refValid_any _ _).mono ?_
        rw [HV.out]
        rintro e w' ⟨rfl, rfl⟩
        go_wp2_with fail
        refine (HCH.out _).mono ?_
        rintro e w2 ⟨rfl, hb2⟩
        go_wp2_with fail
        refine (refValid_any _ _).mono ?_
        rw [HXN.out.valid]
        rintro e w' ⟨rfl, rfl⟩
        go_wp2_with fail
        refine (refOrder_any (enc x) (str b) x (nv (str b)) _ rfl HN.out.eq (by have := HXN.out.small; omega) (by omega)).mono ?_
        rintro e w3 ⟨rfl, hb3⟩
        go_wp2_with fail
        refine (awake_any _).mono ?_
        rintro e w4 ⟨rfl, hb4⟩
        go_wp2_with fail
        go_ret
        have z1 := hb1.size
        have z2 := hb2.size
        have z3 := hb3.size
        exact ⟨rfl, bch (bch (bch hb1 z1 hb2) (by omega) hb3) (by omega) hb4⟩
    · have hv2 : validB (str b) = false := by simpa using hv
      have HV := Lib.hid hv2
      clear hv hv2
      go_enter Try.func4, Try.ntmps4
      go_wp2_with fail
      refine HL.out.mono ?_
      rintro e w1 ⟨rfl, hb1⟩
      go_wp2_with fail
      refine (refValid_any _ _).mono ?_
      rw [HV.out]
      rintro e w' ⟨rfl, rfl⟩
      go_wp2_with fail
      refine (awake_any _).mono ?_
      rintro e w2 ⟨rfl, hb2⟩
      go_wp2_with fail
      go_ret
      exact ⟨rfl, hb1.trans (hb2.mono hb1.size)⟩
end Go.Proofs.Ytdiiggmcdpiahaa
