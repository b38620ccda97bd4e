/- The reference of layer 13: Product. -/
import Derived.Test.YtcjbbneiobnmkaaGreatRgC
import Derived.Test.YtcjbbneiobnmkaaGreatPwI
namespace Go.Proofs.YtcjbbneiobnmkaaGreat
open Go.RowKit Num
set_option maxRecDepth 20000
set_option linter.unusedVariables false
theorem pr_snoc_mod {m : Nat} (L : List (Nat × Nat)) (k : Nat) (hk : k < L.length) : pr (L.take k) % m * (L[k].1 ^ L[k].2 % m) % m = pr (L.take (k + 1)) % m := by
  rw [pr_take_succ L k hk, ← Nat.mul_mod]
set_option maxHeartbeats 8000000 in
theorem r13Product_any (M O : ByteArray) (ao bo : Option Addr) (cl ce n1 n2 : Nat) (l : List ByteArray) (es : List (Bool × ByteArray)) (w : World) (hl : NS w ao l) (he : IS w bo es) (h1 : l.length = n1) (h2 : es.length = n2) (hn : n1 ≤ 1000) (hn2 : n2 ≤ 1000) (h64 : M.size ≤ 64) :
    Calls Tryz.prog 24 #[.agg #[.string M, .string O], .slice ao n1 cl, .slice bo n2 ce] w fun e w' => e = .returned (.tuple #[.string (gpS M O l es), .int .i64 (gpE M O l es)]) ∧ Below w.heap.size w w' := by
  have hb := (Below.refl _ w).alloc (Nat.le_refl _) (.cells #[.string M, .string O] 24)
  have hG := GB.new w M O
  obtain ⟨R, hR⟩ : ∃ R, gpE M O l es = R := ⟨_, rfl⟩
  obtain ⟨S, hS⟩ : ∃ S, gpS M O l es = S := ⟨_, rfl⟩
  rw [hR, hS]
  have HRS := Lib.hid (And.intro hR hS)
  have HBAD : Hid (∀ c : Int, c ≠ 0 → gpE M O l es = c → R = c ∧ S = ⟨#[]⟩) := fun c hc e => by
    refine ⟨hR.symm.trans e, ?_⟩
    rw [← hS, gpS, e, mo_bad hc]
  clear hR hS
  go_enter Tryz.func24, Tryz.ntmps24
  go_wp2_with fail
  have HL := Lib.hid (hl.below hb (Nat.le_refl _))
  have HE := Lib.hid (he.below hb (Nat.le_refl _))

  generalize w.alloc _ = w0 at hb hG HL HE ⊢
  clear hl he
  go_loop [8] (fun i => ∃ k : Nat, k ≤ n1 ∧ i = .int .i64 k ∧ Hid (∀ j (hj : j < l.length), j < k → validB l[j] = true)) (fun i => n1 - (intOf i).toNat)
  case atStart => exact ⟨0, by omega, rfl, fun j _ h => by omega⟩
  case round =>
    obtain ⟨k, hk, rfl, hv⟩ := hrel
    by_cases hlt : k < n1
    · have hkl : k < l.length := by omega
      obtain ⟨b, off, rfl, hc⟩ := HL.out k hkl
      obtain ⟨X, hX⟩ : ∃ X, l[k] = X := ⟨_, rfl⟩
      rw [hX] at hc
      by_cases hval : validB X = true
      · have HVV := Lib.hid hval
        have HST : Hid (∀ j (hj : j < l.length), j < k + 1 → validB l[j] = true) := fun j hj hjk => by
          by_cases e : j = k
          · subst e; rw [hX]; exact hval
          · exact hv.out j hj (by omega)
        clear hval hv hX
        go_wp2_with fail
        refine (refValid_any _ _).mono ?_; rw [HVV.out]; rintro e w1 ⟨rfl, rfl⟩
        go_wp2_with fail
        exact ⟨⟨k + 1, by omega, by go_num, HST⟩, by simp [intOf]; omega⟩
      · have hval2 : validB X = false := by simpa using hval
        have HR := Lib.hid (HBAD.out 3 (by decide) (ck_three fun h => not_all hkl (by rw [hX]; exact hval2) h.1))
        have HVV := Lib.hid hval2
        clear hval hval2 hX hv
        go_wp2_with fail
        refine (refValid_any _ _).mono ?_; rw [HVV.out]; rintro e w1 ⟨rfl, rfl⟩
        go_wp2_with fail
        go_ret2
        exact ⟨by rw [HR.out.1, HR.out.2]; rfl, hb⟩
    · obtain rfl : n1 = k := by omega
      have HV := Lib.hid (all_of (l := l) fun j hj => hv.out j hj (by omega))
      clear hv hlt
      go_wp2_with fail
      obtain ⟨wo, rfl⟩ : ∃ wo : World, wo = w0 := ⟨_, rfl⟩
      go_loopw [9] (fun i wr => ∃ k : Nat, k ≤ n2 ∧ i = .int .i64 k ∧ Hid (∀ j (hj : j < es.length), j < k → ivB es[j] = true) ∧ Below wo.heap.size wo wr) (fun i _ => n2 - (intOf i).toNat)
      case atStart => exact ⟨0, by omega, rfl, fun j _ h => by omega, Below.refl _ _⟩
      case round =>
        obtain ⟨k, hk2, rfl, hv, hbr⟩ := hrel
        by_cases hlt : k < n2
        · have hke : k < es.length := by omega
          obtain ⟨b, off, rfl, hc1, hc2⟩ := HE.out k hke
          obtain ⟨ng, hng⟩ : ∃ X, es[k].1 = X := ⟨_, rfl⟩
          obtain ⟨t, ht⟩ : ∃ X, es[k].2 = X := ⟨_, rfl⟩
          rw [hng] at hc1
          rw [ht] at hc2
          have hc1 := cellB_below hc1 hbr (Nat.le_refl _)
          have hc2 := cellB_below hc2 hbr (Nat.le_refl _)
          have hee : es[k] = (ng, t) := by rw [← hng, ← ht]
          clear hng ht
          cases hval : ivB (ng, t)
          · have HR := Lib.hid (HBAD.out 3 (by decide) (ck_three fun h => not_all hke (by rw [hee]; exact hval) h.2))
            have HVV := Lib.hid (show (validB t && !(ng && t.toList.isEmpty)) = false from hval)
            clear hval hee hv
            go_wp2_with fail
            refine (ref2Valid_any ng t _).mono ?_; rw [HVV.out]; rintro e w2 ⟨rfl, b2⟩
            have hb3 := hbr.trans (b2.mono hbr.size)
            go_wp2_with fail
            go_ret2
            exact ⟨by rw [HR.out.1, HR.out.2]; rfl, hb.trans (hb3.mono hb.size)⟩
          · have HVV := Lib.hid (show (validB t && !(ng && t.toList.isEmpty)) = true from hval)
            have HST : Hid (∀ j (hj : j < es.length), j < k + 1 → ivB es[j] = true) := fun j hj hjk => by
              by_cases e : j = k
              · subst e; rw [hee]; exact hval
              · exact hv.out j hj (by omega)
            clear hval hee hv
            go_wp2_with fail
            refine (ref2Valid_any ng t _).mono ?_; rw [HVV.out]; rintro e w2 ⟨rfl, b2⟩
            have hb3 := hbr.trans (b2.mono hbr.size)
            go_wp2_with fail
            exact ⟨⟨k + 1, by omega, by go_num, HST, hb3⟩, by simp [intOf]; omega⟩
        · obtain rfl : n2 = k := by omega
          have HVE := Lib.hid (all_of (l := es) fun j hj => hv.out j hj (by omega))
          have hG1 := hG.below hbr hG.lt
          have HL1 := Lib.hid (HL.out.below hbr (Nat.le_refl _))
          have HE1 := Lib.hid (HE.out.below hbr (Nat.le_refl _))
          have hb1 := hb.trans (hbr.mono hb.size)
          clear hv hlt hG HL HE hb
          have c0 := hG1.c0
          have c1 := hG1.c1
          rcases gE_cases M O with hg | hg | hg
          rotate_left
          iterate 2
            · have HR := Lib.hid (HBAD.out _ (by rw [hg]; decide) (ck_group (same := decide (l.length = es.length)) ⟨HV.out, HVE.out⟩ (by rw [hg]; decide)))
              have HG := Lib.hid hg
              clear hg
              go_wp2_with fail
              refine (r13Check_any M O _).mono ?_; rw [HG.out]; rintro e w2 ⟨rfl, b2⟩
              go_wp2_with fail
              go_ret2
              exact ⟨by rw [HR.out.1, HR.out.2, HG.out]; rfl, hb1.trans (b2.mono hb1.size)⟩
          have HG := Lib.hid hg
          clear hg
          by_cases hne : n1 = n2
          rotate_left
          · have HR := Lib.hid (HBAD.out 6 (by decide) (by unfold gpE; rw [decide_eq_false (by omega)]; exact ck_many ⟨HV.out, HVE.out⟩ HG.out))
            have u1 : ((n1 : Int) != (n2 : Int)) = true := by simp; omega
            have u2 : ¬ ((n1 : Int) = (n2 : Int)) := by omega
            go_wp2_with fail
            refine (r13Check_any M O _).mono ?_; rw [HG.out]; rintro e w2 ⟨rfl, b2⟩
            go_wp2_with fail
            go_ret2
            exact ⟨by rw [HR.out.1, HR.out.2]; rfl, hb1.trans (b2.mono hb1.size)⟩
          subst hne
          have hsm : gpE M O l es = ckE M O l es true := by unfold gpE; rw [decide_eq_true (by omega)]
          have HSM := Lib.hid hsm
          clear hsm
          go_wp2_with fail
          refine (r13Check_any M O _).mono ?_; rw [HG.out]; rintro e w2 ⟨rfl, b2⟩
          have hG2 := hG1.below b2 hG1.lt
          have HL2 := Lib.hid (HL1.out.below b2 (Nat.le_refl _))
          have HE2 := Lib.hid (HE1.out.below b2 (Nat.le_refl _))
          have hb2 := hb1.trans (b2.mono hb1.size)
          clear hG1 HL1 HE1 hb1 b2 c0 c1 hbr
          go_wp2_with fail
          obtain ⟨wp, rfl⟩ : ∃ wp : World, wp = w2 := ⟨_, rfl⟩
          go_loopw [11] (fun i wr => ∃ k : Nat, k ≤ n1 ∧ i = .int .i64 k ∧ Hid (∀ j (hj : j < l.length), j < k → elN (nv M) (nv O) (nv l[j]) = true) ∧ Below wp.heap.size wp wr) (fun i _ => n1 - (intOf i).toNat)
          case atStart => exact ⟨0, by omega, rfl, fun j _ h => by omega, Below.refl _ _⟩
          case round =>
            obtain ⟨k, hk3, rfl, hv, hbr⟩ := hrel
            have hG3 := hG2.below hbr hG2.lt
            have c0 := hG3.c0
            have c1 := hG3.c1
            by_cases hlt : k < n1
            · have hkl : k < l.length := by omega
              obtain ⟨b, off, rfl, hc⟩ := HL2.out k hkl
              have hvk := List.all_eq_true.1 HV.out _ (List.getElem_mem hkl)
              obtain ⟨X, hX⟩ : ∃ X, l[k] = X := ⟨_, rfl⟩
              rw [hX] at hc hvk
              have hc := cellB_below hc hbr (Nat.le_refl _)
              have HH := Lib.hid (fun w => r13has_any M O X w HG.out hvk h64)
              have kk : (0 : Int) ≤ (k : Int) := by omega
              have kl : (k : Int) < (n1 : Int) := by omega
              cases hval : elN (nv M) (nv O) (nv X)
              · have HR := Lib.hid (HBAD.out 13 (by decide) (by rw [HSM.out, ck_last ⟨HV.out, HVE.out⟩ HG.out, if_neg (not_all hkl (by rw [hX]; exact hval))]))
                rw [hval] at HH
                clear hval hX hv hvk
                go_wp2_with fail
                go_region_held3 (fun w' => w'.cell? ⟨w.heap.size, 0, none⟩ = some (.string M) ∧ w'.cell? ⟨w.heap.size, 1, none⟩ = some (.string O) ∧ w'.cell? ⟨b, off + k, none⟩ = some (.string X) ∧ Below wr.heap.size wr w')
                  (first | exact ⟨c0, c1, hc, (Below.refl _ wr).drew⟩ | (refine keep3 ?_ bn; assumption))
                  (first | (go_at_call 56; (with_reducible refine (HH.out _).mono ?_); rintro e wn ⟨rfl, bn⟩))
                go_split_ands
                have hbn : Below wr.heap.size wr wn := by assumption
                go_wp2_with fail
                go_ret2
                exact ⟨by rw [HR.out.1, HR.out.2]; rfl, hb2.trans ((hbr.trans (hbn.mono hbr.size)).mono hb2.size)⟩
              · have HST : Hid (∀ j (hj : j < l.length), j < k + 1 → elN (nv M) (nv O) (nv l[j]) = true) := fun j hj hjk => by
                  by_cases e : j = k
                  · subst e; rw [hX]; exact hval
                  · exact hv.out j hj (by omega)
                rw [hval] at HH
                clear hval hX hv hvk
                go_wp2_with fail
                go_region_held3 (fun w' => w'.cell? ⟨w.heap.size, 0, none⟩ = some (.string M) ∧ w'.cell? ⟨w.heap.size, 1, none⟩ = some (.string O) ∧ w'.cell? ⟨b, off + k, none⟩ = some (.string X) ∧ Below wr.heap.size wr w')
                  (first | exact ⟨c0, c1, hc, (Below.refl _ wr).drew⟩ | (refine keep3 ?_ bn; assumption))
                  (first | (go_at_call 56; (with_reducible refine (HH.out _).mono ?_); rintro e wn ⟨rfl, bn⟩))
                go_split_ands
                have hbn : Below wr.heap.size wr wn := by assumption
                go_wp2_with fail
                exact ⟨⟨k + 1, by omega, by go_num, HST, hbr.trans (hbn.mono hbr.size)⟩, by simp [intOf]; omega⟩
            · obtain rfl : k = n1 := by omega
              have HEL := Lib.hid (all_of (l := l) (p := fun x => elN (nv M) (nv O) (nv x)) fun j hj => hv.out j hj (by omega))
              have hR0 : gpE M O l es = 0 := by rw [HSM.out, ck_last ⟨HV.out, HVE.out⟩ HG.out, if_pos HEL.out]
              have hR1 : R = 0 := HRS.out.1.symm.trans hR0
              have hS1 : S = enc (pr (prs (nv M) l es) % nv M) := by rw [← HRS.out.2, gpS, hR0, mo_zero]
              have HRR := Lib.hid (And.intro hR1 hS1)
              have HL3 := Lib.hid (HL2.out.below hbr (Nat.le_refl _))
              have HE3 := Lib.hid (HE2.out.below hbr (Nat.le_refl _))
              have hb3 := hb2.trans (hbr.mono hb2.size)
              have hM2 := (gE_ok HG.out).1
              have hm2 := (gE_ok HG.out).2.2.1
              obtain ⟨m, hm⟩ : ∃ m, nv M = m := ⟨_, rfl⟩
              obtain ⟨L, hL⟩ : ∃ L, prs (nv M) l es = L := ⟨_, rfl⟩
              have hLL : L.length = k := by rw [← hL]; exact prs_len h1 h2
              have HP : Hid (∀ j (hj : j < L.length) (hj1 : j < l.length) (hj2 : j < es.length), pwS l[j] es[j].1 es[j].2 M = enc (L[j].1 ^ L[j].2 % m) ∧ validB l[j] = true) := fun j hj hj1 hj2 => by
                have hvk := List.all_eq_true.1 HV.out _ (List.getElem_mem hj1)
                have hek := List.all_eq_true.1 HEL.out _ (List.getElem_mem hj1)
                have hik : ivB (es[j].1, es[j].2) = true := List.all_eq_true.1 HVE.out es[j] (List.getElem_mem hj2)
                refine ⟨?_, hvk⟩
                rw [(pwS_el HG.out hvk hek hik).2]
                subst hL
                rw [prs_get hj hj1 hj2, ← hm]
                simp [List.getD_eq_getElem?_getD, hj1, hj2]
              rw [hL, hm] at HRR
              rw [hm] at hM2 hm2
              have HM2 := Lib.hid hM2
              have one0 : (⟨#[1]⟩ : ByteArray) = enc (pr (L.take 0) % m) := by rw [List.take_zero, lit1]; show enc 1 = enc (1 % m); rw [Nat.mod_eq_of_lt (by omega)]
              clear hv hlt hR0 hR1 hS1 hG2 HL2 HE2 hb2 HEL HBAD HRS HSM hM2 hm hL c0 c1
              go_wp2_with fail
              obtain ⟨wq, rfl⟩ : ∃ wq : World, wq = wr := ⟨_, rfl⟩
              go_loopw [12, 13] (fun v12 i wr => ∃ j : Nat, j ≤ k ∧ v12 = .string (enc (pr (L.take j) % m)) ∧ i = .int .i64 j ∧ Below wq.heap.size wq wr) (fun _ i _ => k - (intOf i).toNat)
              case atStart => exact ⟨0, by omega, by rw [one0], rfl, Below.refl _ _⟩
              case round =>
                clear hbr
                obtain ⟨j, hj, rfl, rfl, hbr⟩ := hrel
                have hG4 := hG3.below hbr hG3.lt
                have c0 := hG4.c0
                have c1 := hG4.c1
                by_cases hlt : j < k
                · have hkl : j < l.length := by omega
                  have hke : j < es.length := by omega
                  have hkL : j < L.length := by omega
                  obtain ⟨b1, o1, rfl, hc⟩ := HL3.out j hkl
                  obtain ⟨b2, o2, rfl, hc1, hc2⟩ := HE3.out j hke
                  obtain ⟨hp1, hp2⟩ := HP.out j hkL hkl hke
                  obtain ⟨X, hX⟩ : ∃ X, l[j] = X := ⟨_, rfl⟩
                  obtain ⟨ng, hng⟩ : ∃ X, es[j].1 = X := ⟨_, rfl⟩
                  obtain ⟨t, ht⟩ : ∃ X, es[j].2 = X := ⟨_, rfl⟩
                  rw [hX, hng, ht] at hp1
                  rw [hX] at hc
                  rw [hng] at hc1
                  rw [ht] at hc2
                  have hc := cellB_below hc hbr (Nat.le_refl _)
                  have hc1 := cellB_below hc1 hbr (Nat.le_refl _)
                  have hc2 := cellB_below hc2 hbr (Nat.le_refl _)
                  have hst := pr_snoc_mod (m := m) L j hkL
                  obtain ⟨P, hP⟩ : ∃ P, pr (L.take j) % m = P := ⟨_, rfl⟩
                  obtain ⟨Q, hQ⟩ : ∃ Q, L[j].1 ^ L[j].2 % m = Q := ⟨_, rfl⟩
                  have hPm : P < m := by rw [← hP]; exact Nat.mod_lt _ (by omega)
                  have hQm : Q < m := by rw [← hQ]; exact Nat.mod_lt _ (by omega)
                  rw [hP, hQ] at hst
                  rw [hQ] at hp1
                  have HRAW := Lib.hid (fun w => r13raw_any M O X ng t w h64)
                  rw [hp1] at HRAW
                  have hmm := refMMul_any (enc P) (enc Q) M
                  rw [chk21 (IsN.mk' (Nat.le_trans (blen_mono (Nat.le_of_lt hPm)) HM2.out.le)) (IsN.mk' (Nat.le_trans (blen_mono (Nat.le_of_lt hQm)) HM2.out.le)) HM2.out (by omega), mo_zero, nv_enc, nv_enc, HM2.out.nv, hst] at hmm
                  have HMM := Lib.hid (fun w => hmm w h64)
                  obtain ⟨SP, hSP⟩ : ∃ SP, enc P = SP := ⟨_, rfl⟩
                  obtain ⟨SQ, hSQ⟩ : ∃ SP, enc Q = SP := ⟨_, rfl⟩
                  rw [hP, hSP]
                  rw [hSP, hSQ] at HMM
                  rw [hSQ] at HRAW
                  have kk : (0 : Int) ≤ (j : Int) := by omega
                  have kl : (j : Int) < (k : Int) := by omega
                  clear hmm hp1 hp2 hX hng ht hst hP hQ hPm hQm hSP hSQ
                  go_wp2_with fail
                  go_region_held3 (fun w' => w'.cell? ⟨w.heap.size, 0, none⟩ = some (.string M) ∧ w'.cell? ⟨w.heap.size, 1, none⟩ = some (.string O) ∧ w'.cell? ⟨b1, o1 + j, none⟩ = some (.string X) ∧ w'.cell? ⟨b2, o2 + j * 2, none⟩ = some (.bool ng) ∧ w'.cell? ⟨b2, o2 + j * 2 + 1, none⟩ = some (.string t) ∧ Below wr.heap.size wr w')
                    (first | exact ⟨c0, c1, hc, hc1, hc2, (Below.refl _ wr).drew⟩ | assumption | (refine keep5 ?_ bn; assumption))
                    (first
                      | (go_at_call 58; (with_reducible refine (HRAW.out _).mono ?_); rintro e wn ⟨rfl, bn⟩)
                      | (go_at_call 64; (with_reducible refine (HMM.out _).mono ?_); rintro e wn ⟨rfl, bn⟩))
                  all_goals
                    go_split_ands
                    have hbn := hbr.trans ((show Below wr.heap.size wr _ by assumption).mono hbr.size)
                    go_wp2_with fail
                    exact ⟨⟨j + 1, by omega, rfl, by go_num, hbn⟩, by simp [intOf]; omega⟩
                · obtain rfl : j = k := by omega
                  rw [List.take_of_length_le (by omega)]
                  go_wp2_with fail
                  go_ret2
                  exact ⟨by rw [HRR.out.1, HRR.out.2]; rfl, hb3.trans (hbr.mono hb3.size)⟩
end Go.Proofs.YtcjbbneiobnmkaaGreat
