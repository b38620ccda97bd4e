/- dominolaw13: the law Looks. -/
import Derived.Test.YtmbenndmkacjpaaPwG
import Derived.Deep.RegionHeld3
namespace Go.Proofs.Ytmbenndmkacjpaa
open Go.RowKit Num
set_option maxRecDepth 20000
set_option linter.unusedVariables false
theorem cell_keepB {w w' : World} {a : Addr} {v : Value} (h : w.cell? a = some v) (hb : Below w.heap.size w w') : w'.cell? a = some v := (hb.cell (p := a) (World.block_lt_of_cell? w a h)).trans h
theorem keep3 {w1 w2 w3 : World} {a1 a2 a3 : Addr} {v1 v2 v3 : Value} (h : w2.cell? a1 = some v1 ∧ w2.cell? a2 = some v2 ∧ w2.cell? a3 = some v3 ∧ Below w1.heap.size w1 w2) (b : Below w2.heap.size w2 w3) :
    w3.cell? a1 = some v1 ∧ w3.cell? a2 = some v2 ∧ w3.cell? a3 = some v3 ∧ Below w1.heap.size w1 w3 :=
  ⟨cell_keepB h.1 b, cell_keepB h.2.1 b, cell_keepB h.2.2.1 b, h.2.2.2.trans (b.mono h.2.2.2.size)⟩
theorem keep4 {w1 w2 w3 : World} {a1 a2 a3 a4 : Addr} {v1 v2 v3 v4 : Value} (h : w2.cell? a1 = some v1 ∧ w2.cell? a2 = some v2 ∧ w2.cell? a3 = some v3 ∧ w2.cell? a4 = some v4 ∧ Below w1.heap.size w1 w2) (b : Below w2.heap.size w2 w3) :
    w3.cell? a1 = some v1 ∧ w3.cell? a2 = some v2 ∧ w3.cell? a3 = some v3 ∧ w3.cell? a4 = some v4 ∧ Below w1.heap.size w1 w3 :=
  ⟨cell_keepB h.1 b, cell_keepB h.2.1 b, cell_keepB h.2.2.1 b, cell_keepB h.2.2.2.1 b, h.2.2.2.2.trans (b.mono h.2.2.2.2.size)⟩
theorem hasB_ok {M O s : ByteArray} (h : hasB M O s = true) : gE M O = 0 ∧ validB s = true ∧ elN (nv M) (nv O) (nv s) = true := by
  unfold hasB at h
  rw [Bool.and_eq_true, Bool.and_eq_true, decide_eq_true_eq] at h
  exact ⟨h.1, h.2.1, h.2.2⟩
theorem gpE_one {M O s t : ByteArray} {ng : Bool} (h : hasB M O s = true) (ht : ivB (ng, t) = true) : gpE M O [s] [(ng, t)] = 0 := by
  obtain ⟨h1, h2, h3⟩ := hasB_ok h
  unfold gpE
  rw [decide_eq_true (show [s].length = [(ng, t)].length from rfl), ck_last ⟨by simp [h2], by simp [ht]⟩ h1]
  simp [h3]
theorem gpS_one {M O s t : ByteArray} {ng : Bool} (h : hasB M O s = true) (ht : ivB (ng, t) = true) : gpS M O [s] [(ng, t)] = enc (sb (nv M) (nv s) ng ^ nv t % nv M) := by
  rw [gpS, gpE_one h ht, mo_zero]
  simp [prs, pr]
theorem from_any (s : ByteArray) (w : World) (h : validB s = true) :
    Calls Try.prog 13 #[.string s] w fun e w' => e = .returned (.agg #[.bool false, .string s]) ∧ Below w.heap.size w w' := by
  have hs := isN_of_valid h
  have h1 := from_z (nv s) w hs.le
  rw [← hs.eq] at h1
  have hz : zb ((nv s : Nat) : Int) = false := decide_eq_false (by omega)
  have hzs : zs ((nv s : Nat) : Int) = s := by show enc (nv s) = s; exact hs.eq.symm
  rw [hz, hzs] at h1
  exact h1
set_option maxHeartbeats 8000000 in
theorem looks_walk (M O s : ByteArray) (ao : Option Addr) (cl n : Nat) (l : List ByteArray) (w : World) (hl : NS w ao l) (hn : l.length = n) (h1 : n ≤ maxLen) (h2 : ∀ x ∈ l, x.size ≤ maxLen) (h3 : s.size ≤ maxLen) :
    Calls Try.prog 3 #[.agg #[.string M, .string O], .string s, .slice ao n cl] w fun e w' => e = .returned (.bool true) ∧ Below w.heap.size w w' := by
  have HFA := Lib.hid (fun w ao1 (h : NS w ao1 [s]) => few9_any M O ao1 1 1 [s] w h rfl (by unfold maxLen; omega) (by simpa using h3))
  have HFB := Lib.hid (fun w (h : NS w ao l) => few9_any M O ao cl n l w h hn h1 h2)
  have h1' := h1
  unfold maxLen at h1'
  have hG := (GB.new w M O).alloc (.cells #[.string s] 22)
  have hb := ((Below.refl w.heap.size w).alloc (Nat.le_refl _) (.cells #[.string M, .string O] 24)).alloc (by simp) (.cells #[.string s] 22)
  have hN1 := ns_one (w.alloc (.cells #[.string M, .string O] 24)) s
  rw [World.size_alloc] at hN1
  have hL := Lib.hid (hl.below hb (Nat.le_refl _))
  go_enter Try.func3, Try.ntmps3
  go_wp2_with fail
  generalize World.alloc (World.alloc w _) _ = w1 at hG hb hN1 hL ⊢
  clear hl
  cases hf1 : few9 M O [s]
  · refine (HFA.out _ _ hN1).mono ?_; rw [hf1]; rintro e w2 ⟨rfl, b2⟩
    have hb2 := hb.trans (b2.mono hb.size)
    go_wp2_with fail
    refine (awakeG _).mono ?_; rintro e wa ⟨rfl, ba⟩
    go_wp2_with fail
    go_ret
    exact ⟨rfl, hb2.trans (ba.mono hb2.size)⟩
  refine (HFA.out _ _ hN1).mono ?_; rw [hf1]; rintro e w2 ⟨rfl, b2⟩
  have hb2 := hb.trans (b2.mono hb.size)
  have hG2 := hG.below b2 hG.lt
  have hL2 := Lib.hid (hL.out.below b2 (Nat.le_refl _))
  have c0 := hG2.c0
  have c1 := hG2.c1
  clear hG hb hN1 hL b2 hf1 HFA
  go_wp2_with fail
  cases hf2 : few9 M O l
  · refine (HFB.out _ hL2.out).mono ?_; rw [hf2]; rintro e w3 ⟨rfl, b3⟩
    have hb3 := hb2.trans (b3.mono hb2.size)
    go_wp2_with fail
    refine (awakeG _).mono ?_; rintro e wa ⟨rfl, ba⟩
    go_wp2_with fail
    go_ret
    exact ⟨rfl, hb3.trans (ba.mono hb3.size)⟩
  refine (HFB.out _ hL2.out).mono ?_; rw [hf2]; rintro e w3 ⟨rfl, b3⟩
  have hb3 := hb2.trans (b3.mono hb2.size)
  have hG3 := hG2.below b3 hG2.lt
  have hL3 := Lib.hid (hL2.out.below b3 (Nat.le_refl _))
  clear c0 c1 hG2 hL2 hb2 b3 HFB
  by_cases h8 : n ≤ 8
  rotate_left
  · clear hf2
    go_wp2_with fail
    refine (awakeG _).mono ?_; rintro e wa ⟨rfl, ba⟩
    go_wp2_with fail
    go_ret
    exact ⟨rfl, hb3.trans (ba.mono hb3.size)⟩
  have c0 := hG3.c0
  have c1 := hG3.c1
  have hsz : Hid (∀ x ∈ l, x.size ≤ 20) := by
    unfold few9 at hf2
    rw [Bool.and_eq_true, List.all_eq_true] at hf2
    exact fun x hx => of_decide_eq_true (hf2.1 x hx)
  clear hf2 h1 h2 h3 h1'
  go_wp2_with fail
  cases hh : hasB M O s
  · refine (gHas_any _ _ _ _).mono ?_; rw [hh]; rintro e w4 ⟨rfl, b4⟩
    have hb4 := hb3.trans (b4.mono hb3.size)
    clear c0 c1
    go_wp2_with fail
    refine (awakeG _).mono ?_; rintro e wa ⟨rfl, ba⟩
    go_wp2_with fail
    go_ret
    exact ⟨rfl, hb4.trans (ba.mono hb4.size)⟩
  refine (gHas_any _ _ _ _).mono ?_; rw [hh]; rintro e w4 ⟨rfl, b4⟩
  have hb4 := hb3.trans (b4.mono hb3.size)
  have hG4 := hG3.below b4 hG3.lt
  have hL4 := Lib.hid (hL3.out.below b4 (Nat.le_refl _))
  clear c0 c1 hG3 hL3 hb3 b4
  have c0 := hG4.c0
  have c1 := hG4.c1
  obtain ⟨q1, q2, q3⟩ := hasB_ok hh
  obtain ⟨hM, _, hm2, _⟩ := gE_ok q1
  have HNT : Hid (∀ w, Calls Try.prog 9 #[.agg #[.string M, .string O], .string s, .int .i64 160] w (NTP M 160 (nv M) (nv s) 40 w)) := fun w => newTable_ok M O s 160 w (by unfold ntE; rw [if_pos q2, if_pos q1, if_neg (by omega), if_pos q3])
  have HEX : Hid (∀ t w, validB t = true → Calls Try.prog 12 #[.agg #[.string M, .string O], .string s, .agg #[.bool false, .string t]] w fun e w' => e = .returned (.tuple #[.string (enc (nv s ^ nv t % nv M)), .int .i64 0]) ∧ Below w.heap.size w w') := fun t w ht => by
    have hiv : ivB (false, t) = true := by unfold ivB; rw [ht]; rfl
    have h := gExp_any M O s false t w
    rw [gpE_one hh hiv, gpS_one hh hiv] at h
    exact h
  have HM := Lib.hid (And.intro hM hm2)
  clear q1 q2 q3 hM hm2 hh
  obtain ⟨m, hm⟩ : ∃ m, nv M = m := ⟨_, rfl⟩
  obtain ⟨b, hbb⟩ : ∃ b, nv s = b := ⟨_, rfl⟩
  rw [hm] at HNT HEX HM
  rw [hbb] at HNT HEX
  clear hm hbb
  go_wp2_with fail
  refine (HNT.out _).mono ?_
  rintro e w5 ⟨v, rfl, htb, b5⟩
  obtain ⟨ao2, cc, rfl, _⟩ := htb.open'
  have hG5 := hG4.below b5 hG4.lt
  have hL5 := Lib.hid (hL4.out.below b5 (Nat.le_refl _))
  have hb5 := hb4.trans (b5.mono hb4.size)
  clear c0 c1 hG4 hL4 hb4 b5 HNT
  have hX := TX.new w5 M 160 (.slice ao2 40 cc)
  have hA := (Below.refl w5.heap.size w5).alloc (Nat.le_refl _) (.cells #[.string M, .int .i64 160, .slice ao2 40 cc] 31)
  have htb6 := Lib.hid (htb.below hA)
  have hG6 := hG5.below hA hG5.lt
  have hL6 := Lib.hid (hL5.out.below hA (Nat.le_refl _))
  have hb6 := hb5.trans (hA.mono hb5.size)
  go_wp2_with fail
  generalize w5.heap.size = p at hX ⊢
  generalize w5.alloc _ = w6 at hX htb6 hG6 hL6 hb6 ⊢
  clear htb hG5 hL5 hb5 hA
  have HTE : Hid (∀ t w, validB t = true → t.size ≤ 20 → Below w6.heap.size w6 w → Calls Try.prog 11 #[.agg #[.string M, .int .i64 160, .slice ao2 40 cc], .string t] w fun e w' => e = .returned (.tuple #[.string (enc (b ^ nv t % m)), .int .i64 0]) ∧ Below w.heap.size w w') := fun t w ht hs hbw => by
    have hN := isN_of_valid ht
    refine tabExp_ok M t 160 m b (nv t) 40 _ w HM.out.1 HM.out.2 hN ?_ (by omega) (by omega) (htb6.out.below hbw)
    have h1 : bl (nv t) ≤ 8 * blen (nv t) := by rw [bl_le_iff, Nat.pow_mul]; exact lt_blen _
    have h2 := hN.size
    omega
  have HNL := Lib.hid hn
  clear hn
  go_loopw [9] (fun vi wr => ∃ k : Nat, k ≤ n ∧ vi = .int .i64 (k : Int) ∧ Below w6.heap.size w6 wr) (fun vi _ => n - (intOf vi).toNat)
  case atStart => exact ⟨0, by omega, rfl, Below.refl _ _⟩
  case round =>
    obtain ⟨k, hk, rfl, hbr⟩ := hrel
    by_cases hlt : k < n
    · have hkl : k < l.length := by rw [HNL.out]; exact hlt
      obtain ⟨bb, off, rfl, hc⟩ := hL6.out k hkl
      have hs20 := hsz.out _ (List.getElem_mem hkl)
      obtain ⟨t, ht⟩ : ∃ t, l[k] = t := ⟨_, rfl⟩
      rw [ht] at hc hs20
      have hc7 := cell_keepB hc hbr
      clear ht
      cases hv : validB t
      · have HV := Lib.hid hv
        clear hv
        go_wp2_with fail
        refine (Valid_any t _).mono ?_; rw [HV.out]; rintro e w7 ⟨rfl, rfl⟩
        go_wp2_with fail
        exact ⟨⟨k + 1, by omega, by go_num, hbr⟩, by simp [intOf]; omega⟩
      · have HV := Lib.hid hv
        clear hv
        go_wp2_with fail
        refine (Valid_any t _).mono ?_; rw [HV.out]; rintro e w7 ⟨rfl, rfl⟩
        have hX7 := hX.below hbr hX.lt
        have d0 := hX7.c0
        have d1 := hX7.c1
        have d2 := hX7.c2
        obtain ⟨S1, hS1⟩ : ∃ S, enc (b ^ nv t % m) = S := ⟨_, rfl⟩
        have HTT : Hid (∀ w, Below w6.heap.size w6 w → Calls Try.prog 11 #[.agg #[.string M, .int .i64 160, .slice ao2 40 cc], .string t] w fun e w' => e = .returned (.tuple #[.string S1, .int .i64 0]) ∧ Below w.heap.size w w') := fun w hw => by rw [← hS1]; exact HTE.out t w HV.out hs20 hw
        have HEE : Hid (∀ w, Calls Try.prog 12 #[.agg #[.string M, .string O], .string s, .agg #[.bool false, .string t]] w fun e w' => e = .returned (.tuple #[.string S1, .int .i64 0]) ∧ Below w.heap.size w w') := fun w => by rw [← hS1]; exact HEX.out t w HV.out
        have hbd : Below w6.heap.size w6 wr.drew := hbr.drew
        have kk : (0 : Int) ≤ (k : Int) := by omega
        have kl : (k : Int) < (n : Int) := by omega
        clear hS1
        go_wp2_with fail
        go_region_held3 (fun w' => w'.cell? ⟨p, 0, none⟩ = some (.string M) ∧ w'.cell? ⟨p, 1, none⟩ = some (.int .i64 160) ∧ w'.cell? ⟨p, 2, none⟩ = some (.slice ao2 40 cc) ∧ w'.cell? ⟨bb, off + k, none⟩ = some (.string t) ∧ Below wr.heap.size wr w')
          (first | exact ⟨d0, d1, d2, hc7, (Below.refl _ wr).drew⟩ | (refine keep4 ?_ bn; assumption))
          (first | (go_at_call 11; (with_reducible refine (HTT.out _ hbd).mono ?_); rintro e wn ⟨rfl, bn⟩))
        go_split_ands
        have hbn : Below wr.heap.size wr wn := by assumption
        have hbn2 := hbr.trans (hbn.mono hbr.size)
        have hG8 := hG6.below hbn2 hG6.lt
        have f0 := hG8.c0
        have f1 := hG8.c1
        have hc8 : wn.cell? ⟨bb, off + k, none⟩ = some (.string t) := by assumption
        clear d0 d1 d2 hc7 hbd bn HTT
        go_wp2_with fail
        go_region_held3 (fun w' => w'.cell? ⟨w.heap.size, 0, none⟩ = some (.string M) ∧ w'.cell? ⟨w.heap.size, 1, none⟩ = some (.string O) ∧ w'.cell? ⟨bb, off + k, none⟩ = some (.string t) ∧ Below wn.heap.size wn w')
          (first | exact ⟨f0, f1, hc8, (Below.refl _ wn).drew⟩ | (refine keep3 ?_ bm; assumption))
          (first
            | (go_at_call 13; (with_reducible refine (from_any t _ HV.out).mono ?_); rintro e wm ⟨rfl, bm⟩)
            | (go_at_call 12; (with_reducible refine (HEE.out _).mono ?_); rintro e wm ⟨rfl, bm⟩))
        go_split_ands
        have hbm : ∀ w' : World, Below wn.heap.size wn w' → Below w6.heap.size w6 w' := fun w' h => hbn2.trans (h.mono hbn2.size)
        go_wp2_with fail
        exact ⟨⟨k + 1, by omega, by go_num, hbm _ (by assumption)⟩, by simp [intOf]; omega⟩
    · obtain rfl : k = n := by omega
      go_wp2_with fail
      refine (awakeG _).mono ?_; rintro e wa ⟨rfl, ba⟩
      go_wp2_with fail
      go_ret
      exact ⟨rfl, (hb6.trans (hbr.mono hb6.size)).trans (ba.mono (hb6.trans (hbr.mono hb6.size)).size)⟩
end Go.Proofs.Ytmbenndmkacjpaa
