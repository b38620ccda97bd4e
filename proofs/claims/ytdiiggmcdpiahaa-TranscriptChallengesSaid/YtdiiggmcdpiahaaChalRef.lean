/- dominoref12.Challenge, and transcript.Challenge for every bound. -/
import Derived.Test.YtdiiggmcdpiahaaLawT
import Derived.Test.YtdiiggmcdpiahaaRfB
import Derived.Test.YtdiiggmcdpiahaaTimes
namespace Go.Proofs.Ytdiiggmcdpiahaa
open Go.RowKit Num
open Go.Lib (byteCells byteCells_length byteCells_append)
set_option maxRecDepth 20000
set_option linter.unusedVariables false

/-- the challenge of a state and a bound -/
def chS (st : List UInt8) (v : ByteArray) : ByteArray := if validB v = true ∧ v.size ≠ 0 then enc (nvL (chb st (v.size + 8)) % nv v) else ⟨#[]⟩
def chE (v : ByteArray) : Int := if validB v = true then (if v.size = 0 then 11 else 0) else 3
theorem size_zero {s : ByteArray} (h0 : s.size = 0) : s = ⟨#[]⟩ := by
  cases s with | mk d => simp [ByteArray.size] at h0; simp [h0]

theorem Challenge_any (st : List UInt8) (v : ByteArray) (w : World) (hst : st.length ≤ 100000) :
    Calls Try.prog 12 #[.string (str st), .string v] w fun e w' => e = .returned (.tuple #[.string (chS st v), .int .i64 (chE v)]) ∧ Below w.heap.size w w' := by
  by_cases hv : validB v = true
  · by_cases h0 : v.size = 0
    · have e1 : chS st v = ⟨#[]⟩ := by unfold chS; rw [if_neg (by intro h; exact h.2 h0)]
      have e2 : chE v = 11 := by unfold chE; rw [if_pos hv, if_pos h0]
      rw [e1, e2]
      obtain rfl := size_zero h0
      have HV := Lib.hid hv
      clear e1 e2 hv h0
      go_enter Try.func12, Try.ntmps12
      go_wp2_with (go_at_call 26; refine (Valid_any _ _).mono ?_; rw [HV.out]; rintro e w' ⟨rfl, rfl⟩)
      go_ret2
      exact ⟨rfl, Below.refl _ _⟩
    · have hn := isN_of_valid hv
      have hp : 0 < nv v := by
        rcases Nat.eq_zero_or_pos (nv v) with h | h
        · rw [h] at hn; have := hn.size; rw [blen_zero] at this; omega
        · exact h
      have e1 : chS st v = enc (nvL (chb st (v.size + 8)) % nv v) := by unfold chS; rw [if_pos ⟨hv, h0⟩]
      have e2 : chE v = 0 := by unfold chE; rw [if_pos hv, if_neg h0]
      rw [e1, e2]
      exact Challenge_of st v (nv v) w hn hp hst (fun a w ha => times_any (enc a) (enc 256) v a 256 (nv v) w (IsN.mk' (Nat.le_trans (blen_mono (Nat.le_of_lt ha)) hn.le)) (IsN.mk' (by decide)) hn hp)
  · have e1 : chS st v = ⟨#[]⟩ := by unfold chS; rw [if_neg (by intro h; exact hv h.1)]
    have e2 : chE v = 3 := by unfold chE; rw [if_neg hv]
    have hv2 : validB v = false := by simpa using hv
    rw [e1, e2]
    have HV := Lib.hid hv2
    clear e1 e2 hv hv2
    go_enter Try.func12, Try.ntmps12
    go_wp2_with (go_at_call 26; refine (Valid_any _ _).mono ?_; rw [HV.out]; rintro e w' ⟨rfl, rfl⟩)
    go_ret2
    exact ⟨rfl, Below.refl _ _⟩

theorem nvL_str (l : List UInt8) : nv (str l) = nvL l := by simp [nv, str]
theorem str_tail (x : UInt8) (r : List UInt8) : (str (x :: r)).extract 1 (r.length + 1) = str r := by
  apply ByteArray.ext
  simp [str]
set_option maxHeartbeats 4000000 in
theorem refChallenge_any (st : List UInt8) (v : ByteArray) (w : World) (hst : st.length ≤ 100000) :
    Calls Try.prog 13 #[.string (str st), .string v] w fun e w' => e = .returned (.tuple #[.string (chS st v), .int .i64 (chE v)]) ∧ Below w.heap.size w w' := by
  by_cases hv : validB v = true
  · by_cases h0 : v.size = 0
    · have e1 : chS st v = ⟨#[]⟩ := by unfold chS; rw [if_neg (by intro h; exact h.2 h0)]
      have e2 : chE v = 11 := by unfold chE; rw [if_pos hv, if_pos h0]
      rw [e1, e2]
      obtain rfl := size_zero h0
      have HV := Lib.hid hv
      clear e1 e2 hv h0
      go_enter Try.func13, Try.ntmps13
      go_wp2_with (go_at_call 14; refine (refValid_any _ _).mono ?_; rw [HV.out]; rintro e w' ⟨rfl, rfl⟩)
      go_ret2
      exact ⟨rfl, Below.refl _ _⟩
    · have hn := isN_of_valid hv
      have hp : 0 < nv v := by
        rcases Nat.eq_zero_or_pos (nv v) with h | h
        · rw [h] at hn; have := hn.size; rw [blen_zero] at this; omega
        · exact h
      have e1 : chS st v = enc (nvL (chb st (v.size + 8)) % nv v) := by unfold chS; rw [if_pos ⟨hv, h0⟩]
      have e2 : chE v = 0 := by unfold chE; rw [if_pos hv, if_neg h0]
      rw [e1, e2]
      clear e1 e2
      have hsm := hn.small
      obtain ⟨ne1, ne2⟩ := toList_ne h0
      have HVE := Lib.hid hn.eq
      have HV := Lib.hid hv
      obtain ⟨n, hn0⟩ : ∃ n, v.size = n := ⟨_, rfl⟩
      rw [hn0] at hsm h0 ⊢
      obtain ⟨K, hK⟩ : ∃ K, cK (n + 8) = K := ⟨_, rfl⟩
      have hK1 : n + 8 ≤ 32 * K := by rw [← hK]; unfold cK; omega
      have hK2 : 32 * K ≤ n + 8 + 31 := by rw [← hK]; unfold cK; omega
      have HK := Lib.hid hK
      clear hK hn hv
      go_enter Try.func13, Try.ntmps13
      go_wp2_with (go_at_call 14; refine (refValid_any _ _).mono ?_; rw [HV.out]; rintro e w' ⟨rfl, rfl⟩)
      go_loopw [6, 7] (fun s x wr => ∃ k : Nat, k ≤ K ∧ x = .int .i64 k ∧ s = .string (str (chs st k)) ∧ Below w.heap.size w wr)
        (fun _ x _ => K - (intOf x).toNat)
      case atStart => exact ⟨0, by omega, rfl, rfl, Below.refl _ _⟩
      case round =>
        obtain ⟨k, hk, rfl, rfl, hb⟩ := hrel
        have hlen := length_chs st k
        have hsz := size_str (chs st k)
        rw [hlen] at hsz
        by_cases hlt : k < K
        · have t1 : decide (32 * (k : Int) < (n : Int) + 8) = true := by rw [decide_eq_true_eq]; omega
          go_wp2_with fail
          refine (refEight_any k _ (by omega)).mono ?_
          rintro e w1 ⟨rfl, hb1⟩
          go_wp2_with fail
          refine (refHash_any 67 _ [st, bytesL 8 k] _ (Strs.lit w1 [st, bytesL 8 k] #[.string (str st), .string (str (bytesL 8 k))] rfl) (by rw [flat_two, length_bytesL]; omega)).mono ?_
          rintro e w2 ⟨rfl, hb2⟩
          have hb2' := (blw_alloc w1 _).trans (hb2.mono (by simp))
          have z0 := hb.size
          have z1 := hb1.size
          have hb3 := bch (bch hb z0 hb1) (by omega) hb2'
          have hs2 := size_sha (frm 67 [st, bytesL 8 k])
          rw [sha_eq] at hs2 ⊢
          go_wp2_with fail
          exact ⟨⟨k + 1, by omega, by go_num, by rw [str_append]; rfl, hb3⟩, by simp [intOf]; omega⟩
        · obtain rfl : k = K := by omega
          have t1 : decide (32 * (k : Int) < (n : Int) + 8) = false := by rw [decide_eq_false_iff_not]; omega
          have hex : (str (chs st k)).extract 0 (n + 8) = str (chb st (n + 8)) := by
            unfold chb
            rw [HK.out]
            apply ByteArray.ext
            simp [str]
          have HEX := Lib.hid hex
          clear hex
          go_wp2_with fail
          rw [HEX.out]
          have hlb := length_chb st (n + 8)
          obtain ⟨B, hB0⟩ : ∃ B, chb st (n + 8) = B := ⟨_, rfl⟩
          rw [hB0] at hlb ⊢
          have HB := Lib.hid hB0
          clear hB0 HEX t1 hsz hlen
          go_loop [6] (fun s => ∃ r : List UInt8, s = .string (str r) ∧ r.length ≤ n + 8 ∧ Hid (nvL r = nvL B)) (fun s => match s with | .string t => t.size | _ => 0)
          case atStart => exact ⟨B, rfl, by omega, rfl⟩
          case round =>
            obtain ⟨r, rfl, hr, hnr⟩ := hrel
            have hsz := size_str r
            have fin : ∀ r : List UInt8, r.length ≤ n + 8 → nvL r = nvL B → r.head? ≠ some 0 → ∀ w, Calls Try.prog 37 #[.string (str r), .string v] w fun e w' => e = .returned (.tuple #[.string (enc (nvL B / nv v)), .string (enc (nvL B % nv v))]) ∧ Below w.heap.size w w' := by
              intro r hr hnr hh w
              have he : str r = enc (nvL B) := by rw [← hnr]; unfold enc; rw [encL_nvL r hh]; rfl
              exact refOver_any (str r) v (nvL B) (nv v) w he HVE.out hp (by rw [size_str]; omega) (by omega)
            cases r with
            | nil =>
              have FIN := Lib.hid (fin [] (by simp) hnr.out (by simp))
              clear fin
              have hsz0 : (str []).size = 0 := rfl
              go_wp2_with fail
              refine (FIN.out _).mono ?_
              rintro e w1 ⟨rfl, hb1⟩
              go_wp2_with fail
              go_ret2
              rw [HB.out]
              exact ⟨rfl, bch hb hb.size hb1⟩
            | cons x r =>
              simp only [List.length_cons] at hsz hr
              have hx0 : ((str (x :: r))[0]'(by rw [hsz]; omega)) = x := rfl
              by_cases hx : x = 0
              · subst hx
                have hv1 : Hid (nvL r = nvL B) := by rw [← hnr.out, nvL_cons]; simp [Hid]
                have htl := str_tail 0 r
                have HTL := Lib.hid htl
                clear fin htl
                go_wp2_with fail
                rw [HTL.out]
                exact ⟨⟨r, rfl, by omega, hv1⟩, by simp only [size_str, List.length_cons]; omega⟩
              · have hx' : ((x.toNat : Int) == 0) = false := by
                  rw [beq_eq_false_iff_ne]; intro e
                  exact hx (UInt8.toNat_inj.1 (by simpa using e))
                have FIN := Lib.hid (fin (x :: r) (by simp; omega) hnr.out (by simp [hx]))
                clear fin
                go_wp2_with fail
                refine (FIN.out _).mono ?_
                rintro e w1 ⟨rfl, hb1⟩
                go_wp2_with fail
                go_ret2
                rw [HB.out]
                exact ⟨rfl, bch hb hb.size hb1⟩
  · have e1 : chS st v = ⟨#[]⟩ := by unfold chS; rw [if_neg (by intro h; exact hv h.1)]
    have e2 : chE v = 3 := by unfold chE; rw [if_neg hv]
    have hv2 : validB v = false := by simpa using hv
    rw [e1, e2]
    have HV := Lib.hid hv2
    clear e1 e2 hv hv2
    go_enter Try.func13, Try.ntmps13
    go_wp2_with (go_at_call 14; refine (refValid_any _ _).mono ?_; rw [HV.out]; rintro e w' ⟨rfl, rfl⟩)
    go_ret2
    exact ⟨rfl, Below.refl _ _⟩
end Go.Proofs.Ytdiiggmcdpiahaa
