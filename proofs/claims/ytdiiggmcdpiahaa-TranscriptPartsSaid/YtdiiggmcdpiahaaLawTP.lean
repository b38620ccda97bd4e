/- dominolaw12: frame, and the walk of TranscriptParts. -/
import Derived.Test.YtdiiggmcdpiahaaLawT
namespace Go.Proofs.Ytdiiggmcdpiahaa
open Go.RowKit Num
open Go.Lib (byteCells byteCells_length byteCells_append)
set_option maxRecDepth 20000

/-- frames are equal only if the lengths of the second strings are -/
theorem frm_len {c : UInt8} {s a b : List UInt8} {L M : List (List UInt8)} (ha : a.length < 65536) (hb : b.length < 65536) (h : frm c (s :: a :: L) = frm c (s :: b :: M)) : a.length = b.length := by
  unfold frm at h
  have h1 := (List.cons.inj h).2
  have h2 := (List.append_inj h1 (by rw [length_bytesL, length_bytesL])).2
  have h3 : bytesL 8 s.length ++ s ++ (bytesL 8 a.length ++ a ++ flat L) = bytesL 8 s.length ++ s ++ (bytesL 8 b.length ++ b ++ flat M) := h2
  have h4 := (List.append_inj h3 rfl).2
  rw [List.append_assoc, List.append_assoc] at h4
  have h5 := (List.append_inj h4 (by rw [length_bytesL, length_bytesL])).1
  have h6 := congrArg nvL h5
  rw [nvL_bytesL, nvL_bytesL] at h6
  omega
/-- .. or of the third -/
theorem frm_len3 {c : UInt8} {s t a b : List UInt8} {L M : List (List UInt8)} (ha : a.length < 65536) (hb : b.length < 65536) (h : frm c (s :: t :: a :: L) = frm c (s :: t :: b :: M)) : a.length = b.length := by
  unfold frm at h
  have h1 := (List.cons.inj h).2
  have h2 := (List.append_inj h1 (by rw [length_bytesL, length_bytesL])).2
  have h3 : bytesL 8 s.length ++ s ++ ((bytesL 8 t.length ++ t) ++ (bytesL 8 a.length ++ a ++ flat L)) = bytesL 8 s.length ++ s ++ ((bytesL 8 t.length ++ t) ++ (bytesL 8 b.length ++ b ++ flat M)) := h2
  have h4 := (List.append_inj (List.append_inj h3 rfl).2 rfl).2
  rw [List.append_assoc, List.append_assoc] at h4
  have h5 := (List.append_inj h4 (by rw [length_bytesL, length_bytesL])).1
  have h6 := congrArg nvL h5
  rw [nvL_bytesL, nvL_bytesL] at h6
  omega
theorem str_inj {a b : List UInt8} (h : str a = str b) : a = b := by rw [← data_str a, ← data_str b, h]
theorem eight_short (n : Nat) (h : n < 65536) : bytesL 8 n = [0, 0, 0, 0, 0, 0] ++ [UInt8.ofNat (n / 256), UInt8.ofNat n] := by
  have e : ∀ k, 2 ≤ k → n / 256 ^ k = 0 := fun k hk => Nat.div_eq_of_lt (Nat.lt_of_lt_of_le h (Nat.pow_le_pow_right (n := 256) (by omega) hk))
  simp only [bytesL, List.range, List.range.loop, List.map]
  simp [e 7 (by omega), e 6 (by omega), e 5 (by omega), e 4 (by omega), e 3 (by omega), e 2 (by omega)]
theorem frame1_any (n : Nat) (w : World) (h : n < 65536) :
    Calls Try.prog 40 #[.int .i64 n] w fun e w' => e = .returned (.string (str (bytesL 8 n))) ∧ Below w.heap.size w w' := by
  have hcv : (convert 49 9 (.slice (some ⟨w.heap.size, 0, none⟩) 2 2)).run Try.prog (w.alloc (.cells #[.int .u8 ((n : Int) / 256), .int .u8 ((n : Int) % 256)] 5)) = .ok (.string (str [UInt8.ofNat (n / 256), UInt8.ofNat n])) (w.alloc (.cells #[.int .u8 ((n : Int) / 256), .int .u8 ((n : Int) % 256)] 5)) := by
    refine conv_str _ w.heap.size 0 2 [UInt8.ofNat (n / 256), UInt8.ofNat n] ?_
    intro j hj
    rw [Nat.zero_add, new_cell0]
    have : j = 0 ∨ j = 1 := by simp at hj; omega
    rcases this with rfl | rfl <;> simp <;> omega
  have hfin : (⟨#[0, 0, 0, 0, 0, 0]⟩ : ByteArray) ++ str [UInt8.ofNat (n / 256), UInt8.ofNat n] = str (bytesL 8 n) := by
    rw [eight_short n h]; exact str_append [0, 0, 0, 0, 0, 0] _
  have HF := Lib.hid hfin
  have hz : (str [UInt8.ofNat (n / 256), UInt8.ofNat n]).size = 2 := size_str _
  clear hfin
  go_enter Try.func40, Try.ntmps40
  go_wp2_with fail
  go_ret
  exact ⟨ret_str HF.out, blw_alloc _ _⟩
set_option maxHeartbeats 1000000 in
theorem frame_any (c : UInt8) (v : Value) (L : List (List UInt8)) (w : World) (hS : Strs w v L) (hL : L.length < 1000) (hl : ∀ s ∈ L, s.length < 65536) :
    Calls Try.prog 22 #[.string (str [c]), v] w fun e w' => e = .returned (.string (str (frm c L))) ∧ Below w.heap.size w w' := by
  obtain ⟨ao, cm, rfl, hm⟩ := hS.more
  obtain ⟨n, hn⟩ : ∃ n, L.length = n := ⟨_, rfl⟩
  rw [hn] at hL ⊢
  have HN := Lib.hid hn
  clear hn hS
  have hk1 : (str [c]).size = 1 := size_str _
  have hk2 : (str (bytesL 8 n)).size = 8 := by rw [size_str, length_bytesL]
  go_enter Try.func22, Try.ntmps22
  go_wp2_with fail
  refine (frame1_any n _ (by omega)).mono ?_
  rintro e w1 ⟨rfl, hb⟩
  have hm1 := hm.below hb (Nat.le_refl _)
  go_wp2_with fail
  rw [str_append]
  obtain ⟨hd, hhd⟩ : ∃ hd, [c] ++ bytesL 8 n = hd := ⟨_, rfl⟩
  have hdl : hd.length = 9 := by rw [← hhd]; simp [length_bytesL]
  rw [hhd]
  have HD := Lib.hid hhd
  have HDL := Lib.hid hdl
  clear hk1 hk2 hhd hdl
  go_loopw [6, 17] (fun s i wr => ∃ k : Nat, k ≤ n ∧ i = .int .i64 k ∧ s = .string (str (hd ++ flat (L.take k))) ∧ Below w1.heap.size w1 wr)
    (fun _ i _ => n - (intOf i).toNat)
  case atStart => exact ⟨0, by omega, rfl, by simp [flat], Below.refl _ _⟩
  case round =>
    obtain ⟨k, hk, rfl, rfl, hb'⟩ := hrel
    by_cases hlt : k < n
    · have hkL : k < L.length := by rw [HN.out]; exact hlt
      obtain ⟨b, off, rfl, hc⟩ := (hm1.below hb' (Nat.le_refl _)) k hkL
      obtain ⟨m, hmm⟩ : ∃ m, L[k].length = m := ⟨_, rfl⟩
      have hmb : m < 65536 := by rw [← hmm]; exact hl _ (List.getElem_mem hkL)
      have hfl : ∀ j, (flat (L.take j)).length ≤ 65544 * j := by
        intro j
        induction j with
        | zero => simp [flat]
        | succ j ih =>
          by_cases hj : j < L.length
          · rw [flat_take L j hj, List.length_append, List.length_append, length_bytesL]
            have := hl _ (List.getElem_mem hj)
            omega
          · rw [List.take_of_length_le (by omega)] at ih ⊢; omega
      have hfk := hfl k
      have z1 : (str L[k]).size = m := by rw [size_str, hmm]
      have z2 : (str (bytesL 8 m)).size = 8 := by rw [size_str, length_bytesL]
      have z3 : (str (hd ++ flat (L.take k))).size ≤ 70000000 := by rw [size_str, List.length_append]; have := HDL.out; omega
      have HMM := Lib.hid hmm
      have hfe : str (hd ++ flat (L.take k)) ++ (str (bytesL 8 m) ++ str L[k]) = str (hd ++ flat (L.take (k + 1))) := by
        rw [str_append, str_append, flat_take L k hkL, HMM.out, List.append_assoc]
      have HFE := Lib.hid hfe
      clear hfe hmm hfk hfl
      go_wp2_with fail
      refine (frame1_any m _ hmb).mono ?_
      rintro e w2 ⟨rfl, hb2⟩
      have hbN := hb'.trans (hb2.mono hb'.size)
      go_wp2_with fail
      exact ⟨⟨k + 1, by omega, by go_num, congrArg Value.string HFE.out, hbN⟩, by simp [intOf]; omega⟩
    · obtain rfl : k = n := by omega
      rw [List.take_of_length_le (by rw [HN.out]; omega)]
      have hfin : hd ++ flat L = frm c L := by rw [← HD.out, ← HN.out]; simp [frm]
      rw [hfin]
      clear hfin
      go_wp2_with fail
      go_ret
      exact ⟨rfl, hb.trans (hb'.mono hb.size)⟩
theorem toList_str (l : List UInt8) : (str l).toList = l := by rw [ByteArray.toList_eq, data_str]
set_option maxHeartbeats 4000000 in
theorem parts_walk (s a b : List UInt8) (w : World) (hs : s.length ≤ maxLen) (ha : a.length ≤ maxLen) (hb : b.length ≤ maxLen) :
    Calls Try.prog 7 #[.string (str s), .string (str a), .string (str b)] w fun e w' => e = .returned (.bool true) ∧ Below w.heap.size w w' := by
  have hl := long3 s a b w hs ha hb
  by_cases h : 600 < lsum [s, a, b]
  · rw [decide_eq_true h] at hl
    have HL := Lib.hid hl
    clear hl
    go_enter Try.func7, Try.ntmps7
    go_wp2_with fail
    refine HL.out.mono ?_
    rintro e w1 ⟨rfl, hb1⟩
    go_wp2_with fail
    refine (awake_any _).mono ?_
    rintro e w2 ⟨rfl, hb2⟩
    go_wp2_with fail
    go_ret
    exact ⟨rfl, hb1.trans (hb2.mono hb1.size)⟩
  · rw [decide_eq_false h] at hl
    have HL := Lib.hid hl
    have hsh := short_of h
    have hs6 : s.length ≤ 600 := hsh s (by simp)
    have ha6 : a.length ≤ 600 := hsh a (by simp)
    have hb6 : b.length ≤ 600 := hsh b (by simp)
    clear hl hsh h
    have hcut : a = [] ∨ ∃ p x, a = p ++ [x] := by
      rcases List.eq_nil_or_concat a with h | ⟨p, x, h⟩
      · exact .inl h
      · exact .inr ⟨p, x, by rw [h, List.concat_eq_append]⟩
    rcases hcut with rfl | ⟨p, x, rfl⟩
    · have he : (str []).toList.isEmpty = true := by rw [toList_str]; rfl
      go_enter Try.func7, Try.ntmps7
      go_wp2_with fail
      refine HL.out.mono ?_
      rintro e w1 ⟨rfl, hb1⟩
      go_wp2_with fail
      refine (awake_any _).mono ?_
      rintro e w2 ⟨rfl, hb2⟩
      go_wp2_with fail
      go_ret
      exact ⟨rfl, hb1.trans (hb2.mono hb1.size)⟩
    · have he : (str (p ++ [x])).toList.isEmpty = false := by rw [toList_str]; simp
      have he2 : (str (p ++ [x])).toList = [] → False := fun e => by rw [e] at he; cases he
      rw [List.length_append, List.length_singleton] at ha6
      have zp : (str (p ++ [x])).size = p.length + 1 := by rw [size_str]; simp
      have zb : (str b).size ≤ 600 := by rw [size_str]; exact hb6
      have x1 : (str (p ++ [x])).extract 0 p.length = str p := by
        apply ByteArray.ext; simp [str]
      have x2 : (str (p ++ [x])).extract p.length (p.length + 1) ++ str b = str (x :: b) := by
        have : (str (p ++ [x])).extract p.length (p.length + 1) = str [x] := by
          apply ByteArray.ext; simp [str]
        rw [this]; exact str_append [x] b
      have X1 := Lib.hid x1
      have X2 := Lib.hid x2
      clear x1 x2
      obtain ⟨P, hP⟩ : ∃ P, p.length = P := ⟨_, rfl⟩
      rw [hP] at zp X1 X2 ha6
      have g1 : IntKind.i64.wrap ((P : Int) + 1 - 1) = (P : Int) := by rw [IntWalk.i64_in _ (by omega)]; omega
      go_enter Try.func7, Try.ntmps7
      go_wp2_with fail
      refine HL.out.mono ?_
      rintro e w1 ⟨rfl, hb1⟩
      go_wp2_with fail
      go_quiet (fail)
      rw [X1.out, X2.out]
      have hb1 := below_drewN hb1 nq
      generalize w1.drewN nq = w2 at hb1 ⊢
      have y1 := hb1.size
      refine ‹∀ (a : Act) (w : World), Code.wp Try.prog _ _ a w → _› _ _ ?_
      obtain ⟨A, hA⟩ : ∃ A, p ++ [x] = A := ⟨_, rfl⟩
      obtain ⟨D, hD⟩ : ∃ D, x :: b = D := ⟨_, rfl⟩
      have hAl : A.length = P + 1 := by rw [← hA, List.length_append, hP]; rfl
      have hDl : D.length = b.length + 1 := by rw [← hD]; rfl
      rw [hA] at he he2 zp ⊢
      rw [hD]
      have hpl : p.length ≤ 600 := by omega
      have hAb : A.length ≤ 601 := by omega
      have hDb : D.length ≤ 601 := by omega
      have ne1 : frm 65 [s, A, b] ≠ frm 65 [s, p, D] := fun e => by have := frm_len (by omega) (by omega) e; omega
      have ne2 : frm 76 [s, [], A, b] ≠ frm 76 [s, [], p, D] := fun e => by have := frm_len3 (by omega) (by omega) e; omega
      have ne3 : frm 65 [s, A, b] ≠ frm 76 [s, [], A, b] := fun e => by injection e with e _; revert e; decide
      obtain ⟨F1, hF1⟩ : ∃ F, frm 65 [s, A, b] = F := ⟨_, rfl⟩
      obtain ⟨F2, hF2⟩ : ∃ F, frm 65 [s, p, D] = F := ⟨_, rfl⟩
      obtain ⟨F3, hF3⟩ : ∃ F, frm 76 [s, [], A, b] = F := ⟨_, rfl⟩
      obtain ⟨F4, hF4⟩ : ∃ F, frm 76 [s, [], p, D] = F := ⟨_, rfl⟩
      rw [hF1, hF2] at ne1
      rw [hF3, hF4] at ne2
      rw [hF1, hF3] at ne3
      have n1 : ¬ (str F1).toList = (str F2).toList := fun e => ne1 (by rwa [toList_str, toList_str] at e)
      have n2 : ¬ (str F3).toList = (str F4).toList := fun e => ne2 (by rwa [toList_str, toList_str] at e)
      have n3 : ¬ (str F1).toList = (str F3).toList := fun e => ne3 (by rwa [toList_str, toList_str] at e)
      have m1 : ((str F1).toList == (str F2).toList) = false := by rw [beq_eq_false_iff_ne]; exact n1
      have m2 : ((str F3).toList == (str F4).toList) = false := by rw [beq_eq_false_iff_ne]; exact n2
      have m3 : ((str F1).toList == (str F3).toList) = false := by rw [beq_eq_false_iff_ne]; exact n3
      have f1 : F1.length ≤ 5000 := by rw [← hF1, length_frm, flat_three]; omega
      have f2 : F2.length ≤ 5000 := by rw [← hF2, length_frm, flat_three]; omega
      have f3 : F3.length ≤ 5000 := by rw [← hF3, length_frm, show flat [s, [], A, b] = flat [s, []] ++ flat [A, b] from by simp [flat], List.length_append, flat_two, flat_two]; simp; omega
      have f4 : F4.length ≤ 5000 := by rw [← hF4, length_frm, show flat [s, [], p, D] = flat [s, []] ++ flat [p, D] from by simp [flat], List.length_append, flat_two, flat_two]; simp; omega
      have G1 := Lib.hid hF1
      have G2 := Lib.hid hF2
      have G3 := Lib.hid hF3
      have G4 := Lib.hid hF4
      have HPP := Lib.hid hP
      clear hF1 hF2 hF3 hF4 hA hD X1 X2 ne1 ne2 ne3 hP zp g1 hAl hDl HL ha
      go_wp2_with fail
      refine (frame_any 65 _ [s, A, b] _ (Strs.lit w2 [s, A, b] #[.string (str s), .string (str A), .string (str b)] rfl) (by simp) (by simp; omega)).mono ?_
      rw [G1.out]
      rintro e w3 ⟨rfl, hb3⟩
      replace hb3 := (blw_alloc w2 _).trans (hb3.mono (by simp))
      go_wp2_with fail
      refine (frame_any 65 _ [s, p, D] _ (Strs.lit w3 [s, p, D] #[.string (str s), .string (str p), .string (str D)] rfl) (by simp) (by simp; omega)).mono ?_
      rw [G2.out]
      rintro e w4 ⟨rfl, hb4⟩
      replace hb4 := (blw_alloc w3 _).trans (hb4.mono (by simp))
      go_wp2_with fail
      refine (frame_any 76 _ [s, [], A, b] _ (Strs.lit w4 [s, [], A, b] #[.string (str s), .string (str []), .string (str A), .string (str b)] rfl) (by simp) (by simp; omega)).mono ?_
      rw [G3.out]
      rintro e w5 ⟨rfl, hb5⟩
      replace hb5 := (blw_alloc w4 _).trans (hb5.mono (by simp))
      go_wp2_with fail
      refine (frame_any 76 _ [s, [], p, D] _ (Strs.lit w5 [s, [], p, D] #[.string (str s), .string (str []), .string (str p), .string (str D)] rfl) (by simp) (by simp; omega)).mono ?_
      rw [G4.out]
      rintro e w6 ⟨rfl, hb6⟩
      replace hb6 := (blw_alloc w5 _).trans (hb6.mono (by simp))
      go_wp2_with fail
      refine (TrAdd_any s A b _ (by omega) (by omega) (by omega)).mono ?_
      rw [G1.out]
      rintro e w7 ⟨rfl, hb7⟩
      go_wp2_with fail
      refine (refSum_any (str F1) _ (by rw [size_str]; omega)).mono ?_
      rw [data_str]
      rintro e w8 ⟨rfl, hb8⟩
      go_wp2_with fail
      refine (TrAdd_any s p D _ (by omega) (by omega) (by omega)).mono ?_
      rw [G2.out]
      rintro e w9 ⟨rfl, hb9⟩
      go_wp2_with fail
      refine (refSum_any (str F2) _ (by rw [size_str]; omega)).mono ?_
      rw [data_str]
      rintro e w10 ⟨rfl, hb10⟩
      go_wp2_with fail
      refine (TrNats_any s [] _ 2 [A, b] _ (MoreS.lit w10 _ [A, b] #[.string (str A), .string (str b)] rfl) (by show (flat ([s, []] ++ [A, b])).length ≤ _; rw [flat_append, List.length_append, flat_two, flat_two]; simp; omega)).mono ?_
      rw [show [s, []] ++ [A, b] = [s, [], A, b] from rfl, G3.out]
      rintro e w11 ⟨rfl, hb11⟩
      replace hb11 := (blw_alloc w10 _).trans (hb11.mono (by simp))
      go_wp2_with fail
      refine (refSum_any (str F3) _ (by rw [size_str]; omega)).mono ?_
      rw [data_str]
      rintro e w12 ⟨rfl, hb12⟩
      go_wp2_with fail
      refine (TrNats_any s [] _ 2 [p, D] _ (MoreS.lit w12 _ [p, D] #[.string (str p), .string (str D)] rfl) (by show (flat ([s, []] ++ [p, D])).length ≤ _; rw [flat_append, List.length_append, flat_two, flat_two]; simp; omega)).mono ?_
      rw [show [s, []] ++ [p, D] = [s, [], p, D] from rfl, G4.out]
      rintro e w13 ⟨rfl, hb13⟩
      replace hb13 := (blw_alloc w12 _).trans (hb13.mono (by simp))
      go_wp2_with fail
      refine (refSum_any (str F4) _ (by rw [size_str]; omega)).mono ?_
      rw [data_str]
      rintro e w14 ⟨rfl, hb14⟩
      go_wp2_with fail
      refine (awake_any _).mono ?_
      rintro e w15 ⟨rfl, hb15⟩
      go_wp2_with fail
      go_ret
      have y3 := hb3.size
      have y4 := hb4.size
      have y5 := hb5.size
      have y6 := hb6.size
      have y7 := hb7.size
      have y8 := hb8.size
      have y9 := hb9.size
      have y10 := hb10.size
      have y11 := hb11.size
      have y12 := hb12.size
      have y13 := hb13.size
      have y14 := hb14.size
      exact ⟨rfl, bch (bch (bch (bch (bch (bch (bch (bch (bch (bch (bch (bch (bch hb1 (by omega) hb3) (by omega) hb4) (by omega) hb5) (by omega) hb6) (by omega) hb7) (by omega) hb8) (by omega) hb9) (by omega) hb10) (by omega) hb11) (by omega) hb12) (by omega) hb13) (by omega) hb14) (by omega) hb15⟩
end Go.Proofs.Ytdiiggmcdpiahaa
