import Derived.Test.YtcbamkgomnhdbaaGreatDoorLnT
import Derived.Test.YtcbamkgomnhdbaaGreatDoorRgA
/- The reference of layer 15: formed, many, Order. -/
namespace Go.Proofs.YtcbamkgomnhdbaaGreatDoor
open Go.RowKit Num
set_option maxRecDepth 20000
set_option linter.unusedVariables false
theorem rvalidQ {s : ByteArray} {b : Bool} (h : validB s = b) : ∀ w, Calls Tryz.prog 43 #[.string s] w fun e w' => e = .returned (.bool b) ∧ w = w' := fun w => (refValid_any s w).mono fun _ _ ⟨h1, h2⟩ => ⟨by rw [h1, h], h2⟩
theorem rivalidW {g : Bool} {s : ByteArray} {b : Bool} (h : ivB (g, s) = b) : ∀ w, Calls Tryz.prog 45 #[.agg #[.bool g, .string s]] w fun e w' => e = .returned (.bool b) ∧ Below w.heap.size w w' := fun w => (ref2Valid_any g s w).mono fun _ _ ⟨h1, h2⟩ => ⟨by rw [h1, ← h]; rfl, h2⟩
theorem fmQ_eq2 (m n : Nat) (i : Int) (T : ByteArray) (ta : Option Addr) (tc : Nat) (L : List TmR) : fmQ m n (eqp (i, T, ta, tc, L)) = (validB T && (decide (0 ≤ i) && (decide (i < (m : Int)) && L.all (fmT n)))) := by
  rw [fmQ_eq]
  cases decide (0 ≤ i) <;> cases decide (i < (m : Int)) <;> cases validB T <;> rfl
theorem fmT_eq2 (n : Nat) (s : ByteArray) (u : Int) (g : Bool) (E : ByteArray) : fmT n (s, u, g, E) = (validB s && (ivB (g, E) && (decide (0 ≤ u) && decide (u < (n : Int))))) := by
  rw [fmT_eq]
  cases decide (0 ≤ u) <;> cases decide (u < (n : Int)) <;> cases validB s <;> cases ivB (g, E) <;> rfl
set_option maxHeartbeats 8000000 in
theorem rformed_any (a : StA) (S : StM) (w : World) (hS : SS w a S) (hok : S.ok) :
    Calls Tryz.prog 34 #[.agg #[.slice a.ga S.G.length a.gc, .slice a.va S.V.length a.vc, .slice a.qa S.Q.length a.qc]] w fun e w' => e = .returned (.bool (formB S.pl)) ∧ Below w.heap.size w w' := by
  rw [formB_pl]
  have hb := (Below.refl _ w).alloc (Nat.le_refl _) (.cells #[.slice a.ga S.G.length a.gc, .slice a.va S.V.length a.vc, .slice a.qa S.Q.length a.qc] 26)
  have hX := SXB.new w a S
  have hS0 := hS.below hb (Nat.le_refl _)
  obtain ⟨ga, gc, va, vc, qa, qc⟩ := a
  obtain ⟨G, W, Q⟩ := S
  simp only at hb hX hS0 ⊢
  have HG := Lib.hid hS0.g
  have HV := Lib.hid hS0.v
  have HQ := Lib.hid hS0.q
  have hX0 := hX.c0
  have hX1 := hX.c1
  have hX2 := hX.c2
  have l1 : G.length ≤ maxLen := hok.gl
  have l2 : W.length ≤ maxLen := hok.vl
  have l3 : Q.length ≤ maxLen := hok.ql
  have l4 : Hid (∀ q ∈ Q, q.2.2.2.2.length ≤ maxLen) := fun q hq => (hok.q q hq).2.2.1
  simp only at HG HV HQ hX0 hX1 hX2
  unfold maxLen at l1 l2 l3 l4
  clear hS hS0 hok
  obtain ⟨ng, hng⟩ : ∃ n, G.length = n := ⟨_, rfl⟩
  obtain ⟨nw, hnv⟩ : ∃ n, W.length = n := ⟨_, rfl⟩
  obtain ⟨mq, hnq⟩ : ∃ n, Q.length = n := ⟨_, rfl⟩
  simp only [hng, hnv, hnq] at hb hX0 hX1 hX2 l1 l2 l3 HG HV HQ ⊢
  have HNG := Lib.hid hng
  have HNV := Lib.hid hnv
  have HNQ := Lib.hid hnq
  obtain ⟨R2, hR2⟩ : ∃ R, Q.all (fun q => fmQ ng nw (eqp q)) = R := ⟨_, rfl⟩
  obtain ⟨R1, hR1⟩ : ∃ R, (W.all validB && R2) = R := ⟨_, rfl⟩
  rw [hR2, hR1]
  obtain ⟨V, hV⟩ : ∃ V, (G.all fmG && R1) = V := ⟨_, rfl⟩
  rw [hV]
  have H0 : Hid (((G.drop 0).all fmG && R1) = V) := hV
  have H1 : Hid (((W.drop 0).all validB && R2) = R1) := hR1
  have H2 : Hid ((Q.drop 0).all (fun q => fmQ ng nw (eqp q)) = R2) := hR2
  clear hng hnv hnq hR2 hR1 hV hX
  go_enter Tryz.func34, Tryz.ntmps34
  go_wp2_with fail
  generalize World.alloc _ _ = w0 at hb hX0 hX1 hX2 HG HV HQ ⊢
  go_wp2_with fail
  go_loopw [3] (fun v3 wr => ∃ k : Nat, k ≤ ng ∧ v3 = .int .i64 (k : Int) ∧ Hid (((G.drop k).all fmG && R1) = V) ∧ Below w0.heap.size w0 wr) (fun v3 _ => ng - (intOf v3).toNat)
  case atStart => exact ⟨0, by omega, rfl, H0, Below.refl _ _⟩
  case round =>
    clear H0
    obtain ⟨k, hk, rfl, hP, hB⟩ := hrel
    have hbw := hb.trans (hB.mono hb.size)
    have d0 := cells_keepL hB (Nat.le_refl _) _ _ hX0
    have d1 := cells_keepL hB (Nat.le_refl _) _ _ hX1
    have d2 := cells_keepL hB (Nat.le_refl _) _ _ hX2
    by_cases hlt : k < ng
    · have hkG : k < G.length := by rw [HNG.out]; exact hlt
      obtain ⟨b, off, rfl, e0, e1⟩ := (HG.out.keep (cells_keepL hB (Nat.le_refl _))) k hkG
      have hw := hP.out
      rw [List.drop_eq_getElem_cons hkG, List.all_cons] at hw
      generalize G[k] = x at e0 e1 hw
      obtain ⟨M, O⟩ := x
      simp only [fmG] at e0 e1 hw
      clear hP hkG
      cases hv : validB M
      · rw [hv] at hw
        obtain rfl : V = false := by rw [← hw]; rfl
        have HVM := Lib.hid (rvalidQ hv)
        clear hv hw
        go_wp2_with fail
        refine (HVM.out _).mono ?_; rintro e w1 ⟨rfl, rfl⟩
        go_wp2_with fail
        go_ret
        exact ⟨rfl, hbw⟩
      · have HVM := Lib.hid (rvalidQ hv)
        rw [hv, Bool.true_and] at hw
        clear hv
        cases hv : validB O
        · rw [hv] at hw
          obtain rfl : V = false := by rw [← hw]; rfl
          have HVO := Lib.hid (rvalidQ hv)
          clear hv hw
          go_wp2_with fail
          refine (HVM.out _).mono ?_; rintro e w1 ⟨rfl, rfl⟩
          go_wp2_with fail
          refine (HVO.out _).mono ?_; rintro e w1 ⟨rfl, rfl⟩
          go_wp2_with fail
          go_ret
          exact ⟨rfl, hbw⟩
        · have HVO := Lib.hid (rvalidQ hv)
          rw [hv, Bool.true_and] at hw
          have HW := Lib.hid hw
          clear hv hw
          go_wp2_with fail
          refine (HVM.out _).mono ?_; rintro e w1 ⟨rfl, rfl⟩
          go_wp2_with fail
          refine (HVO.out _).mono ?_; rintro e w1 ⟨rfl, rfl⟩
          go_wp2_with fail
          exact ⟨⟨k + 1, by omega, by go_num, HW, hB⟩, by simp [intOf]; omega⟩
    · obtain rfl : ng = k := by omega
      have hw := hP.out
      rw [List.drop_of_length_le (by rw [HNG.out]; omega)] at hw
      obtain rfl : R1 = V := hw
      have HV2 := Lib.hid (HV.out.keepL (cells_keepL hB (Nat.le_refl _)))
      have HQ2 := Lib.hid (HQ.out.keep (cells_keepL hB (Nat.le_refl _)))
      clear hP hX0 hX1 hX2 HV HQ hb hB HG
      go_wp2_with fail
      obtain ⟨wo1, rfl⟩ : ∃ wo : World, wo = wr := ⟨_, rfl⟩
      go_loopw [4] (fun v4 wq => ∃ k : Nat, k ≤ nw ∧ v4 = .int .i64 (k : Int) ∧ Hid (((W.drop k).all validB && R2) = R1) ∧ Below wo1.heap.size wo1 wq) (fun v4 _ => nw - (intOf v4).toNat)
      case atStart => exact ⟨0, by omega, rfl, H1, Below.refl _ _⟩
      case round =>
        clear H1
        obtain ⟨k, hk, rfl, hP, hB⟩ := hrel
        have hbq := hbw.trans (hB.mono hbw.size)
        have x0 := cells_keepL hB (Nat.le_refl _) _ _ d0
        have x1 := cells_keepL hB (Nat.le_refl _) _ _ d1
        have x2 := cells_keepL hB (Nat.le_refl _) _ _ d2
        by_cases hlt : k < nw
        · have hkG : k < W.length := by rw [HNV.out]; exact hlt
          obtain ⟨b, off, rfl, e0⟩ := (HV2.out.keepL (cells_keepL hB (Nat.le_refl _))) k hkG
          have hw := hP.out
          rw [List.drop_eq_getElem_cons hkG, List.all_cons] at hw
          generalize W[k] = x at e0 hw
          clear hP hkG hbw
          cases hv : validB x
          · rw [hv] at hw
            obtain rfl : R1 = false := by rw [← hw]; rfl
            have HVM := Lib.hid (rvalidQ hv)
            clear hv hw
            go_wp2_with fail
            refine (HVM.out _).mono ?_; rintro e w1 ⟨rfl, rfl⟩
            go_wp2_with fail
            go_ret
            exact ⟨rfl, hbq⟩
          · have HVM := Lib.hid (rvalidQ hv)
            rw [hv, Bool.true_and] at hw
            have HW := Lib.hid hw
            clear hv hw
            go_wp2_with fail
            refine (HVM.out _).mono ?_; rintro e w1 ⟨rfl, rfl⟩
            go_wp2_with fail
            exact ⟨⟨k + 1, by omega, by go_num, HW, hB⟩, by simp [intOf]; omega⟩
        · obtain rfl : nw = k := by omega
          have hw := hP.out
          rw [List.drop_of_length_le (by rw [HNV.out]; omega)] at hw
          obtain rfl : R2 = R1 := hw
          have HQ3 := Lib.hid (HQ2.out.keep (cells_keepL hB (Nat.le_refl _)))
          clear hP HV2 HQ2 d0 d1 d2 hbw hB
          go_wp2_with fail
          obtain ⟨wo2, rfl⟩ : ∃ wo : World, wo = wr := ⟨_, rfl⟩
          go_loopw [5] (fun v5 we => ∃ k : Nat, k ≤ mq ∧ v5 = .int .i64 (k : Int) ∧ Hid ((Q.drop k).all (fun q => fmQ ng nw (eqp q)) = R2) ∧ Below wo2.heap.size wo2 we) (fun v5 _ => mq - (intOf v5).toNat)
          case atStart => exact ⟨0, by omega, rfl, H2, Below.refl _ _⟩
          case round =>
            clear H2
            obtain ⟨k, hk, rfl, hP, hB⟩ := hrel
            have hbe := hbq.trans (hB.mono hbq.size)
            have d0 := cells_keepL hB (Nat.le_refl _) _ _ x0
            have d1 := cells_keepL hB (Nat.le_refl _) _ _ x1
            have d2 := cells_keepL hB (Nat.le_refl _) _ _ x2
            by_cases hlt : k < mq
            · have hkG : k < Q.length := by rw [HNQ.out]; exact hlt
              have hlx := l4.out _ (List.getElem_mem hkG)
              obtain ⟨b, off, rfl, e0, e1, e2, hT⟩ := (HQ3.out.keep (cells_keepL hB (Nat.le_refl _))) k hkG
              have hw := hP.out
              rw [List.drop_eq_getElem_cons hkG, List.all_cons] at hw
              generalize Q[k] = x at e0 e1 e2 hT hlx hw
              obtain ⟨i, T, ta, tc, L⟩ := x
              rw [fmQ_eq2] at hw
              simp only at e0 e1 e2 hT hlx
              obtain ⟨nt, hnt⟩ : ∃ n, L.length = n := ⟨_, rfl⟩
              rw [hnt] at e2 hlx
              have HNT := Lib.hid hnt
              have hN := QB.new wr i T (.slice ta nt tc)
              have hbN := (Below.refl _ wr).alloc (Nat.le_refl _) (.cells #[.int .i64 i, .string T, .slice ta nt tc] 48)
              have hbf := hbe.trans (hbN.mono hbe.size)
              have hB2 := hB.trans (hbN.mono hB.size)
              have n0 := hN.c0
              have n1 := hN.c1
              have n2 := hN.c2
              have HT := Lib.hid (hT.keep (cells_keepL hbN (Nat.le_refl _)))
              have y0 := cells_keepL hbN (Nat.le_refl _) _ _ d0
              have y1 := cells_keepL hbN (Nat.le_refl _) _ _ d1
              clear hP hkG hB hbe hT d0 d1 x0 x1 x2 hnt
              cases hv : validB T
              · rw [hv] at hw
                obtain rfl : R2 = false := by rw [← hw]; rfl
                have HVM := Lib.hid (rvalidQ hv)
                clear hv hw hN
                go_wp2_with fail
                refine (HVM.out _).mono ?_; rintro e w1 ⟨rfl, rfl⟩
                go_wp2_with fail
                go_ret
                exact ⟨rfl, hbf⟩
              have HVM := Lib.hid (rvalidQ hv)
              rw [hv, Bool.true_and] at hw
              clear hv
              by_cases t1 : i < 0
              · obtain rfl : R2 = false := by rw [← hw, decide_eq_false (show ¬ 0 ≤ i by omega)]; rfl
                have e3 : decide (i < 0) = true := decide_eq_true t1
                clear hw hN
                go_wp2_with fail
                refine (HVM.out _).mono ?_; rintro e w1 ⟨rfl, rfl⟩
                go_wp2_with fail
                go_ret
                exact ⟨rfl, hbf⟩
              have e3 : decide (i < 0) = false := decide_eq_false t1
              by_cases t2 : (ng : Int) ≤ i
              · obtain rfl : R2 = false := by rw [← hw, decide_eq_false (show ¬ i < (ng : Int) by omega)]; simp
                have e4 : decide ((ng : Int) ≤ i) = true := decide_eq_true t2
                clear hw hN
                go_wp2_with fail
                refine (HVM.out _).mono ?_; rintro e w1 ⟨rfl, rfl⟩
                go_wp2_with fail
                go_ret
                exact ⟨rfl, hbf⟩
              have e4 : decide ((ng : Int) ≤ i) = false := decide_eq_false t2
              rw [decide_eq_true (show 0 ≤ i by omega), decide_eq_true (show i < (ng : Int) by omega), Bool.true_and, Bool.true_and] at hw
              obtain ⟨R3, hR3⟩ : ∃ R, ((Q.drop (k + 1)).all fun q => fmQ ng nw (eqp q)) = R := ⟨_, rfl⟩
              have HR3 := Lib.hid hR3
              have H3 : Hid (((L.drop 0).all (fmT nw) && R3) = R2) := by
                show _ = _
                rw [← hR3]
                exact hw
              clear hw hR3
              go_wp2_with fail
              refine (HVM.out _).mono ?_; rintro e w1 ⟨rfl, rfl⟩
              go_wp2_with fail
              clear n0 n1 n2
              generalize wr.heap.size = p6 at hN ⊢
              generalize World.alloc _ _ = w5 at hbN hbf hB2 hN HT y0 y1 ⊢
              go_loopw [7] (fun v7 wt => ∃ j : Nat, j ≤ nt ∧ v7 = .int .i64 (j : Int) ∧ Hid (((L.drop j).all (fmT nw) && R3) = R2) ∧ Below w5.heap.size w5 wt) (fun v7 _ => nt - (intOf v7).toNat)
              case atStart => exact ⟨0, by omega, rfl, H3, Below.refl _ _⟩
              case round =>
                clear H3
                obtain ⟨j, hj, rfl, hP, hB⟩ := hrel
                have hbt := hbf.trans (hB.mono hbf.size)
                have z0 := cells_keepL hB (Nat.le_refl _) _ _ y0
                have z1 := cells_keepL hB (Nat.le_refl _) _ _ y1
                have hQ2 := hN.below hB hN.lt
                have n2 := hQ2.c2
                by_cases hlj : j < nt
                · have hjL : j < L.length := by rw [HNT.out]; exact hlj
                  obtain ⟨b, off, rfl, e5, e6, e7, e8⟩ := (HT.out.keep (cells_keepL hB (Nat.le_refl _))) j hjL
                  have hw := hP.out
                  rw [List.drop_eq_getElem_cons hjL, List.all_cons] at hw
                  generalize L[j] = x at e5 e6 e7 e8 hw
                  obtain ⟨s, u, g, E⟩ := x
                  rw [fmT_eq2] at hw
                  simp only at e5 e6 e7 e8
                  have hM := TmB.new wr s u g E
                  have hbM := (Below.refl _ wr).alloc (Nat.le_refl _) (.cells #[.string s, .int .i64 u, .bool g, .string E] 75)
                  have hbg := hbt.trans (hbM.mono hbt.size)
                  have hB3 := hB.trans (hbM.mono hB.size)
                  have m0 := hM.c0
                  have m1 := hM.c1
                  have m2 := hM.c2
                  have m3 := hM.c3
                  have z3 := cells_keepL hbM (Nat.le_refl _) _ _ z1
                  clear hP hjL hB hbt hbN hbf hB2 y0 y1 z0 hN hQ2
                  cases hv : validB s
                  · rw [hv] at hw
                    obtain rfl : R2 = false := by rw [← hw]; rfl
                    have HVS := Lib.hid (rvalidQ hv)
                    clear hv hw
                    go_wp2_with fail
                    refine (HVS.out _).mono ?_; rintro e w1 ⟨rfl, rfl⟩
                    go_wp2_with fail
                    go_ret
                    exact ⟨rfl, hbg⟩
                  have HVS := Lib.hid (rvalidQ hv)
                  rw [hv, Bool.true_and] at hw
                  clear hv
                  cases hv : ivB (g, E)
                  · rw [hv] at hw
                    obtain rfl : R2 = false := by rw [← hw]; rfl
                    have HVI := Lib.hid (rivalidW hv)
                    clear hv hw
                    go_wp2_with fail
                    refine (HVS.out _).mono ?_; rintro e w1 ⟨rfl, rfl⟩
                    go_wp2_with fail
                    refine (HVI.out _).mono ?_; rintro e w1 ⟨rfl, b1⟩
                    have hbh := hbg.trans (b1.mono hbg.size)
                    go_wp2_with fail
                    go_ret
                    exact ⟨rfl, hbh⟩
                  have HVI := Lib.hid (rivalidW hv)
                  rw [hv, Bool.true_and] at hw
                  clear hv
                  by_cases t3 : u < 0
                  · obtain rfl : R2 = false := by rw [← hw, decide_eq_false (show ¬ 0 ≤ u by omega)]; rfl
                    have e9 : decide (u < 0) = true := decide_eq_true t3
                    clear hw
                    go_wp2_with fail
                    clear e5 e6 e7 e8 z1 n2
                    generalize hw6 : World.alloc wr _ = w6 at hM hbM hbg hB3 m0 m1 m2 m3 z3 ⊢
                    clear hw6
                    refine (HVS.out _).mono ?_; rintro e w1 ⟨rfl, rfl⟩
                    go_wp2_with fail
                    refine (HVI.out _).mono ?_; rintro e w1 ⟨rfl, b1⟩
                    have hbh := hbg.trans (b1.mono hbg.size)
                    have k1 := (hM.below b1 hM.lt).c1
                    go_wp2_with fail
                    go_ret
                    exact ⟨rfl, hbh⟩
                  have e9 : decide (u < 0) = false := decide_eq_false t3
                  by_cases t4 : (nw : Int) ≤ u
                  · obtain rfl : R2 = false := by rw [← hw, decide_eq_false (show ¬ u < (nw : Int) by omega)]; simp
                    have e10 : decide ((nw : Int) ≤ u) = true := decide_eq_true t4
                    clear hw
                    go_wp2_with fail
                    clear e5 e6 e7 e8 z1 n2
                    generalize hw6 : World.alloc wr _ = w6 at hM hbM hbg hB3 m0 m1 m2 m3 z3 ⊢
                    clear hw6
                    refine (HVS.out _).mono ?_; rintro e w1 ⟨rfl, rfl⟩
                    go_wp2_with fail
                    refine (HVI.out _).mono ?_; rintro e w1 ⟨rfl, b1⟩
                    have hbh := hbg.trans (b1.mono hbg.size)
                    have k1 := (hM.below b1 hM.lt).c1
                    have z4 := cells_keepL b1 (Nat.le_refl _) _ _ z3
                    go_wp2_with fail
                    go_ret
                    exact ⟨rfl, hbh⟩
                  have e10 : decide ((nw : Int) ≤ u) = false := decide_eq_false t4
                  rw [decide_eq_true (show 0 ≤ u by omega), decide_eq_true (show u < (nw : Int) by omega), Bool.true_and, Bool.true_and] at hw
                  have HW := Lib.hid hw
                  clear hw
                  go_wp2_with fail
                  clear e5 e6 e7 e8 z1 n2
                  generalize hw6 : World.alloc wr _ = w6 at hM hbM hbg hB3 m0 m1 m2 m3 z3 ⊢
                  clear hw6
                  refine (HVS.out _).mono ?_; rintro e w1 ⟨rfl, rfl⟩
                  go_wp2_with fail
                  refine (HVI.out _).mono ?_; rintro e w1 ⟨rfl, b1⟩
                  have hB4 := hB3.trans (b1.mono hB3.size)
                  have k1 := (hM.below b1 hM.lt).c1
                  have z4 := cells_keepL b1 (Nat.le_refl _) _ _ z3
                  go_wp2_with fail
                  exact ⟨⟨j + 1, by omega, by go_num, HW, hB4⟩, by simp [intOf]; omega⟩
                · obtain rfl : nt = j := by omega
                  have hw := hP.out
                  rw [List.drop_of_length_le (by rw [HNT.out]; omega)] at hw
                  have hR : R3 = R2 := hw
                  have hz : Hid (((Q.drop (k + 1)).all fun q => fmQ ng nw (eqp q)) = R2) := by rw [← hR]; exact HR3
                  have hB5 := hB2.trans (hB.mono hB2.size)
                  clear hP hR
                  go_wp2_with fail
                  exact ⟨⟨k + 1, by omega, by go_num, hz, hB5⟩, by simp [intOf]; omega⟩
            · obtain rfl : mq = k := by omega
              have hw := hP.out
              rw [List.drop_of_length_le (by rw [HNQ.out]; omega)] at hw
              obtain rfl : true = R2 := hw
              clear hP
              go_wp2_with fail
              go_ret
              exact ⟨rfl, hbe⟩
set_option maxHeartbeats 4000000 in
theorem rmany_any (a : StA) (S : StM) (w : World) (hS : SS w a S) (hok : S.ok) :
    Calls Tryz.prog 77 #[.agg #[.slice a.ga S.G.length a.gc, .slice a.va S.V.length a.vc, .slice a.qa S.Q.length a.qc]] w fun e w' => e = .returned (.bool (manyB S.pl)) ∧ Below w.heap.size w w' := by
  have hmb : manyB S.pl = (S.Q.any (fun q => lgQ (eqp q)) || (decide (8 < S.G.length) || (decide (64 < S.V.length) || decide (64 < S.Q.length)))) := by
    rw [manyB_pl]
    cases decide (8 < S.G.length) <;> cases decide (64 < S.V.length) <;> cases decide (64 < S.Q.length) <;> cases S.Q.any (fun q => lgQ (eqp q)) <;> rfl
  rw [hmb]
  have hb := (Below.refl _ w).alloc (Nat.le_refl _) (.cells #[.slice a.ga S.G.length a.gc, .slice a.va S.V.length a.vc, .slice a.qa S.Q.length a.qc] 26)
  have hX := SXB.new w a S
  have hS0 := hS.below hb (Nat.le_refl _)
  obtain ⟨ga, gc, va, vc, qa, qc⟩ := a
  obtain ⟨G, W, Q⟩ := S
  simp only at hb hX hS0 ⊢
  have hX0 := hX.c0
  have hX1 := hX.c1
  have hX2 := hX.c2
  have HQ := Lib.hid hS0.q
  have l1 : G.length ≤ maxLen := hok.gl
  have l2 : W.length ≤ maxLen := hok.vl
  have l3 : Q.length ≤ maxLen := hok.ql
  have l4 : Hid (∀ q ∈ Q, q.2.2.2.2.length ≤ maxLen) := fun q hq => (hok.q q hq).2.2.1
  simp only at hX0 hX1 hX2 HQ
  unfold maxLen at l1 l2 l3 l4
  clear hS hS0 hok hX hmb
  obtain ⟨ng, hng⟩ : ∃ n, G.length = n := ⟨_, rfl⟩
  obtain ⟨nw, hnv⟩ : ∃ n, W.length = n := ⟨_, rfl⟩
  obtain ⟨mq, hnq⟩ : ∃ n, Q.length = n := ⟨_, rfl⟩
  simp only [hng, hnv, hnq] at hb hX0 hX1 hX2 l1 l2 l3 HQ ⊢
  have HNQ := Lib.hid hnq
  obtain ⟨R1, hR1⟩ : ∃ R, (decide (8 < ng) || (decide (64 < nw) || decide (64 < mq))) = R := ⟨_, rfl⟩
  rw [hR1]
  have HR1 := Lib.hid hR1
  obtain ⟨V, hV⟩ : ∃ V, (Q.any (fun q => lgQ (eqp q)) || R1) = V := ⟨_, rfl⟩
  rw [hV]
  have H0 : Hid (((Q.drop 0).any (fun q => lgQ (eqp q)) || R1) = V) := hV
  clear hng hnv hnq hR1 hV
  go_enter Tryz.func77, Tryz.ntmps77
  go_wp2_with fail
  generalize World.alloc _ _ = w0 at hb hX0 hX1 hX2 HQ ⊢
  go_wp2_with fail
  go_loopw [3] (fun v3 wr => ∃ k : Nat, k ≤ mq ∧ v3 = .int .i64 (k : Int) ∧ Hid (((Q.drop k).any (fun q => lgQ (eqp q)) || R1) = V) ∧ wr = w0) (fun v3 _ => mq - (intOf v3).toNat)
  case atStart => exact ⟨0, by omega, rfl, H0, rfl⟩
  case round =>
    clear H0
    obtain ⟨k, hk, rfl, hP, rfl⟩ := hrel
    by_cases hlt : k < mq
    · have hkQ : k < Q.length := by rw [HNQ.out]; exact hlt
      have hlx := l4.out _ (List.getElem_mem hkQ)
      obtain ⟨b, off, rfl, e0, e1, e2, hT⟩ := HQ.out k hkQ
      have hw := hP.out
      rw [List.drop_eq_getElem_cons hkQ, List.any_cons] at hw
      clear hT
      generalize Q[k] = x at e0 e1 e2 hlx hw
      obtain ⟨i, T, ta, tc, L⟩ := x
      simp only at e0 e1 e2 hlx
      have hw2 : (decide (64 < L.length) || (Q.drop (k + 1)).any (fun q => lgQ (eqp q)) || R1) = V := hw
      clear hw
      generalize L.length = nt at e2 hlx hw2
      clear hP hkQ
      by_cases t1 : 64 < nt
      · obtain rfl : V = true := by rw [← hw2, decide_eq_true t1]; simp
        have e3 : decide ((64 : Int) < (nt : Int)) = true := decide_eq_true (by omega)
        have e4 : (64 : Int) < (nt : Int) := by omega
        clear hw2
        go_wp2_with fail
        go_ret
        exact ⟨rfl, hb⟩
      · have e3 : decide ((64 : Int) < (nt : Int)) = false := decide_eq_false (by omega)
        have e4 : ¬ (64 : Int) < (nt : Int) := by omega
        have HW : Hid (((Q.drop (k + 1)).any (fun q => lgQ (eqp q)) || R1) = V) := by rw [decide_eq_false t1, Bool.false_or] at hw2; exact hw2
        clear hw2
        go_wp2_with fail
        exact ⟨⟨k + 1, by omega, by go_num, HW, by trivial⟩, by simp [intOf]; omega⟩
    · obtain rfl : mq = k := by omega
      have hw := hP.out
      rw [List.drop_of_length_le (by rw [HNQ.out]; omega)] at hw
      obtain rfl : R1 = V := hw
      have hr := HR1.out
      clear hP HR1
      by_cases t1 : 8 < ng
      · obtain rfl : R1 = true := by rw [← hr, decide_eq_true t1]; rfl
        have e1 : decide ((8 : Int) < (ng : Int)) = true := decide_eq_true (by omega)
        have e1' : (8 : Int) < (ng : Int) := by omega
        clear hr
        go_wp2_with fail
        go_ret
        exact ⟨rfl, hb⟩
      have e1 : decide ((8 : Int) < (ng : Int)) = false := decide_eq_false (by omega)
      have e1' : ¬ (8 : Int) < (ng : Int) := by omega
      rw [decide_eq_false t1, Bool.false_or] at hr
      by_cases t2 : 64 < nw
      · obtain rfl : R1 = true := by rw [← hr, decide_eq_true t2]; rfl
        have e2 : decide ((64 : Int) < (nw : Int)) = true := decide_eq_true (by omega)
        have e2' : (64 : Int) < (nw : Int) := by omega
        clear hr
        go_wp2_with fail
        go_ret
        exact ⟨rfl, hb⟩
      have e2 : decide ((64 : Int) < (nw : Int)) = false := decide_eq_false (by omega)
      have e2' : ¬ (64 : Int) < (nw : Int) := by omega
      rw [decide_eq_false t2, Bool.false_or] at hr
      by_cases t3 : 64 < mq
      · obtain rfl : R1 = true := by rw [← hr, decide_eq_true t3]
        have e3 : decide ((64 : Int) < (mq : Int)) = true := decide_eq_true (by omega)
        have e3' : (64 : Int) < (mq : Int) := by omega
        clear hr
        go_wp2_with fail
        go_ret
        exact ⟨rfl, hb⟩
      · obtain rfl : R1 = false := by rw [← hr, decide_eq_false t3]
        have e3 : decide ((64 : Int) < (mq : Int)) = false := decide_eq_false (by omega)
        have e3' : ¬ (64 : Int) < (mq : Int) := by omega
        clear hr
        go_wp2_with fail
        go_ret
        exact ⟨rfl, hb⟩
theorem rorder_any (a : StA) (S : StM) (w : World) (hS : SS w a S) (hok : S.ok) :
    Calls Tryz.prog 41 #[.agg #[.slice a.ga S.G.length a.gc, .slice a.va S.V.length a.vc, .slice a.qa S.Q.length a.qc]] w fun e w' => e = .returned (.string (ordL S.G)) ∧ Below w.heap.size w w' := by
  have hb := (Below.refl _ w).alloc (Nat.le_refl _) (.cells #[.slice a.ga S.G.length a.gc, .slice a.va S.V.length a.vc, .slice a.qa S.Q.length a.qc] 26)
  have hX := SXB.new w a S
  have hS0 := hS.below hb (Nat.le_refl _)
  obtain ⟨ga, gc, va, vc, qa, qc⟩ := a
  obtain ⟨G, W, Q⟩ := S
  simp only at hb hX hS0 ⊢
  have hX0 := hX.c0
  have HG := Lib.hid hS0.g
  have l1 : G.length ≤ maxLen := hok.gl
  simp only at hX0 HG
  unfold maxLen at l1
  clear hS hS0 hok hX
  obtain ⟨ng, hng⟩ : ∃ n, G.length = n := ⟨_, rfl⟩
  simp only [hng] at hb hX0 l1 HG ⊢
  have HNG := Lib.hid hng
  obtain ⟨R, hR⟩ : ∃ R, ordL G = R := ⟨_, rfl⟩
  rw [hR]
  have H0 : Hid (ordL (G.drop 0) = R) := hR
  clear hng hR
  go_enter Tryz.func41, Tryz.ntmps41
  go_wp2_with fail
  generalize World.alloc _ _ = w0 at hb hX0 HG ⊢
  go_wp2_with fail
  go_loopw [3] (fun v3 wr => ∃ k : Nat, k ≤ ng ∧ v3 = .int .i64 (k : Int) ∧ Hid (ordL (G.drop k) = R) ∧ wr = w0) (fun v3 _ => ng - (intOf v3).toNat)
  case atStart => exact ⟨0, by omega, rfl, H0, rfl⟩
  case round =>
    clear H0
    obtain ⟨k, hk, rfl, hP, rfl⟩ := hrel
    by_cases hlt : k < ng
    · have hkG : k < G.length := by rw [HNG.out]; exact hlt
      obtain ⟨b, off, rfl, e0, e1⟩ := HG.out k hkG
      have hw := hP.out
      rw [List.drop_eq_getElem_cons hkG] at hw
      generalize G[k] = x at e0 e1 hw
      obtain ⟨M, O⟩ := x
      simp only [ordL] at e0 e1 hw
      clear hP hkG
      rcases em_cases O with ⟨h1, rfl⟩ | ⟨h1, h2, h3⟩
      · rw [if_pos h1] at hw
        have HW := Lib.hid hw
        clear hw h1
        go_wp2_with fail
        exact ⟨⟨k + 1, by omega, by go_num, HW, by trivial⟩, by simp [intOf]; omega⟩
      · rw [if_neg (by rw [h1]; decide)] at hw
        have HW := Lib.hid hw
        clear hw h1
        go_wp2_with fail
        go_ret
        exact ⟨by rw [HW.out]; rfl, hb⟩
    · obtain rfl : k = ng := by omega
      have hw := hP.out
      rw [List.drop_of_length_le (by rw [HNG.out]; omega)] at hw
      have HW := Lib.hid hw
      clear hP hw
      go_wp2_with fail
      go_ret
      exact ⟨by rw [← HW.out]; rfl, hb⟩
end Go.Proofs.YtcbamkgomnhdbaaGreatDoor

/- The reference of layer 15: elements, typed, rest, Check, check. -/
namespace Go.Proofs.YtcbamkgomnhdbaaGreatDoor
open Go.RowKit Num
set_option maxRecDepth 20000
set_option linter.unusedVariables false
theorem keep5L {w w1 w2 : World} {K : Nat} {a1 a2 a3 a4 : Addr} {v1 v2 v3 v4 : Value} (h : w1.cell? a1 = some v1 ∧ w1.cell? a2 = some v2 ∧ w1.cell? a3 = some v3 ∧ w1.cell? a4 = some v4 ∧ Below K w w1) (hK : K ≤ w.heap.size) (b : Below w1.heap.size w1 w2) :
    w2.cell? a1 = some v1 ∧ w2.cell? a2 = some v2 ∧ w2.cell? a3 = some v3 ∧ w2.cell? a4 = some v4 ∧ Below K w w2 :=
  ⟨cells_keepL b (Nat.le_refl _) _ _ h.1, cells_keepL b (Nat.le_refl _) _ _ h.2.1, cells_keepL b (Nat.le_refl _) _ _ h.2.2.1, cells_keepL b (Nat.le_refl _) _ _ h.2.2.2.1, h.2.2.2.2.trans (b.mono (Nat.le_trans hK h.2.2.2.2.size))⟩
set_option maxHeartbeats 8000000 in
theorem relements_any (a : StA) (S : StM) (w : World) (hS : SS w a S) (hok : S.ok) (hf : formB S.pl = true) (h64 : ∀ g ∈ S.G, g.1.size ≤ 64) :
    Calls Tryz.prog 78 #[.agg #[.slice a.ga S.G.length a.gc, .slice a.va S.V.length a.vc, .slice a.qa S.Q.length a.qc]] w fun e w' => e = .returned (.bool (elB S.pl)) ∧ Below w.heap.size w w' := by
  have HF : Hid (∀ q ∈ S.Q, ∃ j : Nat, q.1 = (j : Int) ∧ j < S.G.length ∧ grpS S.pl (eqp q) = S.G.getD j (⟨#[]⟩, ⟨#[]⟩)) := fun q hq => by
    obtain ⟨h1, h2, _⟩ := form_q hf (q := eqp q) (by rw [StM.pl_Q]; exact List.mem_map_of_mem hq)
    exact ⟨q.1.toNat, by have : 0 ≤ q.1 := h1; omega, h2, rfl⟩
  rw [elB_pl]
  obtain ⟨EQ, hEQ⟩ : ∃ E, (fun q => elQ S.pl (eqp q)) = E := ⟨_, rfl⟩
  have HE : Hid (∀ q, EQ q = (hasB (grpS S.pl (eqp q)).1 (grpS S.pl (eqp q)).2 q.2.1 && q.2.2.2.2.all (elT (grpS S.pl (eqp q))))) := fun q => by rw [← hEQ]; rfl
  obtain ⟨GS, hGS⟩ : ∃ E, (fun q => grpS S.pl (eqp q)) = E := ⟨_, rfl⟩
  have hgs : ∀ q, grpS S.pl (eqp q) = GS q := fun q => by rw [← hGS]
  simp only [hgs] at HE HF
  rw [hEQ]
  clear hEQ hGS hgs hf
  have hb := (Below.refl _ w).alloc (Nat.le_refl _) (.cells #[.slice a.ga S.G.length a.gc, .slice a.va S.V.length a.vc, .slice a.qa S.Q.length a.qc] 26)
  have hX := SXB.new w a S
  have hS0 := hS.below hb (Nat.le_refl _)
  have H64 := Lib.hid h64
  obtain ⟨ga, gc, va, vc, qa, qc⟩ := a
  obtain ⟨G, W, Q⟩ := S
  simp only at hb hX hS0 HF HE H64 ⊢
  have HG := Lib.hid hS0.g
  have HQ := Lib.hid hS0.q
  have hX0 := hX.c0
  have hX2 := hX.c2
  have l1 : G.length ≤ maxLen := hok.gl
  have l3 : Q.length ≤ maxLen := hok.ql
  have l4 : Hid (∀ q ∈ Q, q.2.2.2.2.length ≤ maxLen) := fun q hq => (hok.q q hq).2.2.1
  simp only at HG HQ hX0 hX2
  unfold maxLen at l1 l3 l4
  clear hS hS0 hok h64
  obtain ⟨ng, hng⟩ : ∃ n, G.length = n := ⟨_, rfl⟩
  obtain ⟨mq, hnq⟩ : ∃ n, Q.length = n := ⟨_, rfl⟩
  simp only [hng, hnq] at hb hX0 hX2 l1 l3 HG HQ HF ⊢
  have HNG := Lib.hid hng
  have HNQ := Lib.hid hnq
  obtain ⟨R1, hR1⟩ : ∃ R, Q.all EQ = R := ⟨_, rfl⟩
  rw [hR1]
  obtain ⟨V, hV⟩ : ∃ V, (G.all ckG && R1) = V := ⟨_, rfl⟩
  rw [hV]
  have H0 : Hid (((G.drop 0).all ckG && R1) = V) := hV
  have H1 : Hid ((Q.drop 0).all EQ = R1) := hR1
  clear hng hnq hR1 hV hX
  go_enter Tryz.func78, Tryz.ntmps78
  go_wp2_with fail
  generalize World.alloc _ _ = w0 at hb hX0 hX2 HG HQ ⊢
  go_wp2_with fail
  go_loopw [3] (fun v3 wr => ∃ k : Nat, k ≤ ng ∧ v3 = .int .i64 (k : Int) ∧ Hid (((G.drop k).all ckG && R1) = V) ∧ Below w0.heap.size w0 wr) (fun v3 _ => ng - (intOf v3).toNat)
  case atStart => exact ⟨0, by omega, rfl, H0, Below.refl _ _⟩
  case round =>
    clear H0
    obtain ⟨k, hk, rfl, hP, hB⟩ := hrel
    have hbw := hb.trans (hB.mono hb.size)
    have d0 := cells_keepL hB (Nat.le_refl _) _ _ hX0
    have d2 := cells_keepL hB (Nat.le_refl _) _ _ hX2
    by_cases hlt : k < ng
    · have hkG : k < G.length := by rw [HNG.out]; exact hlt
      obtain ⟨b, off, rfl, e0, e1⟩ := (HG.out.keep (cells_keepL hB (Nat.le_refl _))) k hkG
      have hw := hP.out
      rw [List.drop_eq_getElem_cons hkG, List.all_cons] at hw
      generalize G[k] = x at e0 e1 hw
      obtain ⟨M, O⟩ := x
      simp only [ckG] at e0 e1 hw
      have HC := fun w => r13Check_any M O w
      clear hP hkG
      obtain ⟨E, hE⟩ : ∃ E, gE M O = E := ⟨_, rfl⟩
      simp only [hE] at hw HC
      clear hE
      by_cases hE0 : E = 0
      · subst hE0
        rw [decide_eq_true rfl, Bool.true_and] at hw
        have HW := Lib.hid hw
        have HC := Lib.hid HC
        clear hw
        go_wp2_with fail
        refine (HC.out _).mono ?_; rintro e w1 ⟨rfl, b1⟩
        have hB3 := hB.trans (b1.mono hB.size)
        go_wp2_with fail
        exact ⟨⟨k + 1, by omega, by go_num, HW, hB3⟩, by simp [intOf]; omega⟩
      · rw [decide_eq_false hE0] at hw
        obtain rfl : V = false := by rw [← hw]; rfl
        have hE1 : (E == 0) = false := by rw [beq_eq_false_iff_ne]; exact hE0
        have hE2 : (E != 0) = true := by rw [bne_iff_ne]; exact hE0
        have HC := Lib.hid HC
        clear hw
        go_wp2_with fail
        refine (HC.out _).mono ?_; rintro e w1 ⟨rfl, b1⟩
        have hbf := hbw.trans (b1.mono hbw.size)
        go_wp2_with fail
        go_ret
        exact ⟨rfl, hbf⟩
    · obtain rfl : ng = k := by omega
      have hw := hP.out
      rw [List.drop_of_length_le (by rw [HNG.out]; omega)] at hw
      obtain rfl : R1 = V := hw
      have HQ2 := Lib.hid (HQ.out.keep (cells_keepL hB (Nat.le_refl _)))
      have HG2 := Lib.hid (HG.out.keep (cells_keepL hB (Nat.le_refl _)))
      clear hP hX0 hX2 HQ hb hB HG
      go_wp2_with fail
      obtain ⟨wo1, rfl⟩ : ∃ wo : World, wo = wr := ⟨_, rfl⟩
      go_loopw [4] (fun v4 wq => ∃ k : Nat, k ≤ mq ∧ v4 = .int .i64 (k : Int) ∧ Hid ((Q.drop k).all EQ = R1) ∧ Below wo1.heap.size wo1 wq) (fun v4 _ => mq - (intOf v4).toNat)
      case atStart => exact ⟨0, by omega, rfl, H1, Below.refl _ _⟩
      case round =>
        clear H1
        obtain ⟨h, hh, rfl, hP, hB⟩ := hrel
        have hbe := hbw.trans (hB.mono hbw.size)
        have x0 := cells_keepL hB (Nat.le_refl _) _ _ d0
        have x2 := cells_keepL hB (Nat.le_refl _) _ _ d2
        by_cases hlt : h < mq
        · have hkQ : h < Q.length := by rw [HNQ.out]; exact hlt
          have hlx := l4.out _ (List.getElem_mem hkQ)
          obtain ⟨j, hj1, hj2, hj3⟩ := HF.out _ (List.getElem_mem hkQ)
          obtain ⟨b, off, rfl, e0, e1, e2, hT⟩ := (HQ2.out.keep (cells_keepL hB (Nat.le_refl _))) h hkQ
          have hw := hP.out
          rw [List.drop_eq_getElem_cons hkQ, List.all_cons, HE.out, hj3] at hw
          clear hj3
          generalize Q[h] = x at e0 e1 e2 hT hlx hw hj1
          obtain ⟨i, T, ta, tc, L⟩ := x
          simp only at e0 e1 e2 hT hlx hw hj1
          subst hj1
          have hjG : j < G.length := by rw [HNG.out]; exact hj2
          have hm64 := H64.out _ (List.getElem_mem hjG)
          obtain ⟨b2, off2, rfl, f0, f1⟩ := (HG2.out.keep (cells_keepL hB (Nat.le_refl _))) j hjG
          rw [grp_at hjG] at hw
          generalize G[j] = x at f0 f1 hw hm64
          obtain ⟨M, O⟩ := x
          simp only at f0 f1 hw hm64
          have HHS := Lib.hid (fun s w => r13Has_any M O s w hm64)
          obtain ⟨nt, hnt⟩ : ∃ n, L.length = n := ⟨_, rfl⟩
          rw [hnt] at e2 hlx
          have HNT := Lib.hid hnt
          have hbN := (Below.refl _ wr).alloc (Nat.le_refl _) (.cells #[.int .i64 (j : Int), .string T, .slice ta nt tc] 48)
          have hN := QB.new wr (j : Int) T (.slice ta nt tc)
          have hbf := hbe.trans (hbN.mono hbe.size)
          have hB2 := hB.trans (hbN.mono hB.size)
          have n0 := hN.c0
          have y0 := cells_keepL hbN (Nat.le_refl _) _ _ x0
          have f0 := cells_keepL hbN (Nat.le_refl _) _ _ f0
          have f1 := cells_keepL hbN (Nat.le_refl _) _ _ f1
          have HT := Lib.hid (hT.keep (cells_keepL hbN (Nat.le_refl _)))
          clear hP hkQ hB hbe hT x0 hnt hjG d0 hm64
          go_wp2_with fail
          have hz : (wr.alloc (.cells #[.int .i64 (j : Int), .string T, .slice ta nt tc] 48)).heap.size = wr.heap.size + 1 := by simp
          generalize hw3 : World.alloc wr _ = w3 at hbN hN hbf hB2 n0 y0 f0 f1 HT hz ⊢
          clear hw3
          go_wp2_with fail
          have hG := GB.new w3 M O
          have hbM := (Below.refl _ w3).alloc (Nat.le_refl _) (.cells #[.string M, .string O] 50)
          have hN4 := hN.below hbM hN.lt
          have hbg := hbf.trans (hbM.mono hbf.size)
          have hB3 := hB2.trans (hbM.mono hB2.size)
          have g0 := hG.c0
          have g1 := hG.c1
          have n1 := hN4.c1
          have n2 := hN4.c2
          have HT4 := Lib.hid (HT.out.keep (cells_keepL hbM (Nat.le_refl _)))
          clear hN HT hbf hB2 hbN n0 y0 f0 f1
          rw [hz] at hG hbM g0 g1
          generalize hw4 : World.alloc w3 _ = w4 at hG hbM hN4 hbg hB3 g0 g1 n1 n2 HT4 ⊢
          clear hw4 hbM hz
          cases hH : hasB M O T
          · rw [hH] at hw
            obtain rfl : R1 = false := by rw [← hw]; rfl
            have HH := Lib.hid hH
            clear hH hw
            go_wp2_with fail
            refine (HHS.out T _).mono ?_; rw [HH.out]; rintro e w5 ⟨rfl, b5⟩
            have hbh := hbg.trans (b5.mono hbg.size)
            go_wp2_with fail
            go_ret
            exact ⟨rfl, hbh⟩
          · rw [hH, Bool.true_and] at hw
            have HH := Lib.hid hH
            obtain ⟨R3, hR3⟩ : ∃ R, (Q.drop (h + 1)).all EQ = R := ⟨_, rfl⟩
            rw [hR3] at hw
            have HR3 := Lib.hid hR3
            have H3 : Hid (((L.drop 0).all (elT (M, O)) && R3) = R1) := hw
            clear hH hw hR3
            go_wp2_with fail
            refine (HHS.out T _).mono ?_; rw [HH.out]; rintro e w5 ⟨rfl, b5⟩
            have hbh := hbg.trans (b5.mono hbg.size)
            have hB4 := hB3.trans (b5.mono hB3.size)
            have hG5 := hG.below b5 hG.lt
            have hN5 := hN4.below b5 hN4.lt
            have HT5 := Lib.hid (HT4.out.keep (cells_keepL b5 (Nat.le_refl _)))
            clear hG hN4 hbg hB3 HT4 b5 g0 g1 n1 n2 HH
            go_wp2_with fail
            generalize hp5 : wr.heap.size = p5 at hG5 hN5 ⊢
            go_loopw [7] (fun v7 wt => ∃ i : Nat, i ≤ nt ∧ v7 = .int .i64 (i : Int) ∧ Hid (((L.drop i).all (elT (M, O)) && R3) = R1) ∧ Below w5.heap.size w5 wt) (fun v7 _ => nt - (intOf v7).toNat)
            case atStart => exact ⟨0, by omega, rfl, H3, Below.refl _ _⟩
            case round =>
              clear H3
              obtain ⟨i, hi, rfl, hP, hB⟩ := hrel
              have hbi := hbh.trans (hB.mono hbh.size)
              have hG6 := hG5.below hB hG5.lt
              have hN6 := hN5.below hB hN5.lt
              have g0 := hG6.c0
              have g1 := hG6.c1
              have n2 := hN6.c2
              by_cases hlj : i < nt
              · have hjL : i < L.length := by rw [HNT.out]; exact hlj
                obtain ⟨b, off, rfl, e5, e6, e7, e8⟩ := (HT5.out.keep (cells_keepL hB (Nat.le_refl _))) i hjL
                have hw := hP.out
                rw [List.drop_eq_getElem_cons hjL, List.all_cons] at hw
                generalize L[i] = x at e5 e6 e7 e8 hw
                obtain ⟨s, u, g, E⟩ := x
                simp only [elT] at e5 e6 e7 e8 hw
                have HS := fun w => HHS.out s w
                obtain ⟨B, hBs⟩ : ∃ B, hasB M O s = B := ⟨_, rfl⟩
                simp only [hBs] at hw HS
                have HS := Lib.hid HS
                clear hP hjL hBs hG6 hN6 e6 e7 e8
                go_wp2_with fail
                go_region_held3 (fun w' => w'.cell? ⟨p5 + 1, 0, none⟩ = some (.string M) ∧ w'.cell? ⟨p5 + 1, 1, none⟩ = some (.string O) ∧ w'.cell? ⟨p5, 2, none⟩ = some (.slice (some ⟨b, off, none⟩) nt tc) ∧ w'.cell? ⟨b, off + i * 4, none⟩ = some (.string s) ∧ Below wr.heap.size wr w')
                  (first | exact ⟨g0, g1, n2, e5, (Below.refl _ wr).drew⟩ | assumption | (refine keep5L ?_ (Nat.le_refl _) bn; assumption))
                  ((go_at_call 109; (with_reducible refine (HS.out _).mono ?_); rintro e wn ⟨rfl, bn⟩; have hbn : Below wr.heap.size wr wn := (Below.refl _ wr).drew.trans (bn.mono (Nat.le_refl _))))
                all_goals
                  have hbj := hbi.trans (hbn.mono hbi.size)
                  have hB6 := hB.trans (hbn.mono hB.size)
                  cases B
                  · obtain rfl : R1 = false := by rw [← hw]; rfl
                    clear hw
                    go_wp2_with fail
                    go_ret
                    exact ⟨rfl, hbj⟩
                  · have HW : Hid (((L.drop (i + 1)).all (elT (M, O)) && R3) = R1) := hw
                    clear hw
                    go_wp2_with fail
                    exact ⟨⟨i + 1, by omega, by go_num, HW, hB6⟩, by simp [intOf]; omega⟩
              · obtain rfl : nt = i := by omega
                have hw := hP.out
                rw [List.drop_of_length_le (by rw [HNT.out]; omega)] at hw
                have hR : R3 = R1 := hw
                have hz : Hid ((Q.drop (h + 1)).all EQ = R1) := by rw [← hR]; exact HR3
                have hB5 := hB4.trans (hB.mono hB4.size)
                clear hP hR
                go_wp2_with fail
                exact ⟨⟨h + 1, by omega, by go_num, hz, hB5⟩, by simp [intOf]; omega⟩
        · obtain rfl : mq = h := by omega
          have hw := hP.out
          rw [List.drop_of_length_le (by rw [HNQ.out]; omega)] at hw
          obtain rfl : true = R1 := hw
          clear hP
          go_wp2_with fail
          go_ret
          exact ⟨rfl, hbe⟩
theorem tyQ_all (S : StP) (q : EqP) : tyQ S q = q.2.2.all (fun t => tyT S t || !emB (grpS S q).2) := by
  unfold tyQ
  cases emB (grpS S q).2
  · simp
  · simp
set_option maxHeartbeats 8000000 in
theorem rtyped_any (a : StA) (S : StM) (w : World) (hS : SS w a S) (hok : S.ok) (hf : formB S.pl = true) :
    Calls Tryz.prog 79 #[.agg #[.slice a.ga S.G.length a.gc, .slice a.va S.V.length a.vc, .slice a.qa S.Q.length a.qc]] w fun e w' => e = .returned (.bool (typB S.pl)) ∧ Below w.heap.size w w' := by
  have HF : Hid (∀ q ∈ S.Q, ∃ j : Nat, q.1 = (j : Int) ∧ j < S.G.length ∧ grpS S.pl (eqp q) = S.G.getD j (⟨#[]⟩, ⟨#[]⟩)) := fun q hq => by
    obtain ⟨h1, h2, _⟩ := form_q hf (q := eqp q) (by rw [StM.pl_Q]; exact List.mem_map_of_mem hq)
    exact ⟨q.1.toNat, by have : 0 ≤ q.1 := h1; omega, h2, rfl⟩
  have HT : Hid (∀ q ∈ S.Q, ∀ t ∈ q.2.2.2.2, ∃ j : Nat, t.2.1 = (j : Int) ∧ j < S.V.length ∧ tyT S.pl t = !emB (S.V.getD j ⟨#[]⟩)) := fun q hq t ht => by
    obtain ⟨_, _, _, h4⟩ := form_q hf (q := eqp q) (by rw [StM.pl_Q]; exact List.mem_map_of_mem hq)
    obtain ⟨g1, g2, _⟩ := h4 t ht
    exact ⟨t.2.1.toNat, by omega, g2, rfl⟩
  rw [typB_pl]
  obtain ⟨EQ, hEQ⟩ : ∃ E, (fun q => tyQ S.pl (eqp q)) = E := ⟨_, rfl⟩
  have HE : Hid (∀ q, EQ q = q.2.2.2.2.all (fun t => tyT S.pl t || !emB (grpS S.pl (eqp q)).2)) := fun q => by rw [← hEQ]; exact tyQ_all _ _
  obtain ⟨TT, hTT⟩ : ∃ E, tyT S.pl = E := ⟨_, rfl⟩
  obtain ⟨GS, hGS⟩ : ∃ E, (fun q => grpS S.pl (eqp q)) = E := ⟨_, rfl⟩
  have hgs : ∀ q, grpS S.pl (eqp q) = GS q := fun q => by rw [← hGS]
  simp only [hgs, hTT] at HE HF HT
  rw [hEQ]
  clear hEQ hGS hgs hf hTT
  have hb := (Below.refl _ w).alloc (Nat.le_refl _) (.cells #[.slice a.ga S.G.length a.gc, .slice a.va S.V.length a.vc, .slice a.qa S.Q.length a.qc] 26)
  have hX := SXB.new w a S
  have hS0 := hS.below hb (Nat.le_refl _)
  have HO := Lib.hid (fun w' (hb' : Below (w.alloc (.cells #[.slice a.ga S.G.length a.gc, .slice a.va S.V.length a.vc, .slice a.qa S.Q.length a.qc] 26)).heap.size (w.alloc (.cells #[.slice a.ga S.G.length a.gc, .slice a.va S.V.length a.vc, .slice a.qa S.Q.length a.qc] 26)) w') => rorder_any a S w' (hS0.below hb' (Nat.le_refl _)) hok)
  have HG := Lib.hid hS0.g
  have HV := Lib.hid hS0.v
  have HQ := Lib.hid hS0.q
  have hX0 := hX.c0
  have hX1 := hX.c1
  have hX2 := hX.c2
  have l1 : S.G.length ≤ maxLen := hok.gl
  have l2 : S.V.length ≤ maxLen := hok.vl
  have l3 : S.Q.length ≤ maxLen := hok.ql
  have l4 : Hid (∀ q ∈ S.Q, q.2.2.2.2.length ≤ maxLen) := fun q hq => (hok.q q hq).2.2.1
  clear hS hS0 hok hX
  obtain ⟨ga, gc, va, vc, qa, qc⟩ := a
  obtain ⟨G, W, Q⟩ := S
  simp only at hb HF HT HO HG HV HQ hX0 hX1 hX2 l1 l2 l3 l4 ⊢
  obtain ⟨ng, hng⟩ : ∃ n, G.length = n := ⟨_, rfl⟩
  obtain ⟨nw, hnv⟩ : ∃ n, W.length = n := ⟨_, rfl⟩
  obtain ⟨mq, hnq⟩ : ∃ n, Q.length = n := ⟨_, rfl⟩
  simp only [hng, hnv, hnq] at hb hX0 hX1 hX2 l1 l2 l3 HG HV HQ HF HT HO ⊢
  have HNG := Lib.hid hng
  have HNV := Lib.hid hnv
  have HNQ := Lib.hid hnq
  obtain ⟨o, ho⟩ : ∃ o, ordL G = o := ⟨_, rfl⟩
  rw [ho] at HO ⊢
  clear hng hnv hnq ho
  unfold maxLen at l1 l2 l3 l4
  obtain ⟨R2, hR2⟩ : ∃ R, Q.all EQ = R := ⟨_, rfl⟩
  obtain ⟨R1, hR1⟩ : ∃ R, (G.all (tyG o) && R2) = R := ⟨_, rfl⟩
  rw [hR2, hR1]
  obtain ⟨V, hVV⟩ : ∃ V, (!W.any emB || !emB o && R1) = V := ⟨_, rfl⟩
  rw [hVV]
  have HVV := Lib.hid hVV
  have H1 : Hid (((G.drop 0).all (tyG o) && R2) = R1) := hR1
  have H2 : Hid ((Q.drop 0).all EQ = R2) := hR2
  have hany : ∀ k, k < W.length → ((W.take (k + 1)).any emB) = ((W.take k).any emB || emB (W.getD k ⟨#[]⟩)) := fun k hk => by
    rw [List.take_succ_eq_append_getElem hk, List.any_append, var_at hk]; simp
  have HAN := Lib.hid hany
  clear hR2 hR1 hVV hany
  go_enter Tryz.func79, Tryz.ntmps79
  go_wp2_with fail
  generalize hw0 : World.alloc _ _ = w0 at hb hX0 hX1 hX2 HG HV HQ HO ⊢
  clear hw0
  go_wp2_with fail
  go_loopw [3, 4] (fun v3 v4 wr => ∃ k : Nat, k ≤ nw ∧ v4 = .int .i64 (k : Int) ∧ v3 = .bool ((W.take k).any emB) ∧ wr = w0) (fun _ v4 _ => nw - (intOf v4).toNat)
  case atStart => exact ⟨0, by omega, rfl, rfl, rfl⟩
  case round =>
    obtain ⟨k, hk, rfl, rfl, rfl⟩ := hrel
    by_cases hlt : k < nw
    · have hkW : k < W.length := by rw [HNV.out]; exact hlt
      obtain ⟨b, off, rfl, e0⟩ := HV.out k hkW
      have hA := HAN.out k hkW
      rw [var_at hkW] at hA
      generalize W[k] = x at e0 hA
      clear hkW
      cases hfl : (W.take k).any emB
      · rw [hfl, Bool.false_or] at hA
        clear hfl
        rcases em_cases x with ⟨h1, rfl⟩ | ⟨h1, h2, h3⟩
        · rw [h1] at hA
          have HA := Lib.hid hA
          clear h1 hA
          go_wp2_with fail
          exact ⟨⟨k + 1, by omega, by go_num, by rw [HA.out], by trivial⟩, by simp [intOf]; omega⟩
        · rw [h1] at hA
          have HA := Lib.hid hA
          clear h1 hA
          go_wp2_with fail
          exact ⟨⟨k + 1, by omega, by go_num, by rw [HA.out], by trivial⟩, by simp [intOf]; omega⟩
      · rw [hfl, Bool.true_or] at hA
        have HA := Lib.hid hA
        clear hfl hA
        go_wp2_with fail
        exact ⟨⟨k + 1, by omega, by go_num, by rw [HA.out], by trivial⟩, by simp [intOf]; omega⟩
    · obtain rfl : nw = k := by omega
      rw [List.take_of_length_le (by rw [HNV.out]; omega)]
      have hVV := HVV.out
      clear HAN HVV
      cases hany : W.any emB
      · rw [hany] at hVV
        obtain rfl : true = V := hVV
        clear hany
        go_wp2_with fail
        go_ret
        exact ⟨rfl, hb⟩
      rw [hany] at hVV
      clear hany
      go_wp2_with fail
      refine (HO.out _ (Below.refl _ _)).mono ?_; rintro e w2 ⟨rfl, b2⟩
      have hb2 := hb.trans (b2.mono hb.size)
      have y0 := cells_keepL b2 (Nat.le_refl _) _ _ hX0
      have y1 := cells_keepL b2 (Nat.le_refl _) _ _ hX1
      have y2 := cells_keepL b2 (Nat.le_refl _) _ _ hX2
      have HG2 := Lib.hid (HG.out.keep (cells_keepL b2 (Nat.le_refl _)))
      have HV2 := Lib.hid (HV.out.keepL (cells_keepL b2 (Nat.le_refl _)))
      have HQ2 := Lib.hid (HQ.out.keep (cells_keepL b2 (Nat.le_refl _)))
      clear hX0 hX1 hX2 HG HV HQ HO b2 hb
      rcases em_cases o with ⟨h1, rfl⟩ | ⟨h1, h2, h3⟩
      · obtain rfl : V = false := by rw [← hVV, h1]; rfl
        clear h1 hVV
        go_wp2_with fail
        go_ret
        exact ⟨rfl, hb2⟩
      rw [h1] at hVV
      obtain rfl : R1 = V := hVV
      clear h1
      go_wp2_with fail
      obtain ⟨wo1, rfl⟩ : ∃ wo : World, wo = w2 := ⟨_, rfl⟩
      go_loopw [6] (fun v6 wr => ∃ k : Nat, k ≤ ng ∧ v6 = .int .i64 (k : Int) ∧ Hid (((G.drop k).all (tyG o) && R2) = R1) ∧ wr = wo1) (fun v6 _ => ng - (intOf v6).toNat)
      case atStart => exact ⟨0, by omega, rfl, H1, rfl⟩
      case round =>
        clear H1
        obtain ⟨k, hk, rfl, hP, rfl⟩ := hrel
        by_cases hlt : k < ng
        · have hkG : k < G.length := by rw [HNG.out]; exact hlt
          obtain ⟨b, off, rfl, e0, e1⟩ := HG2.out k hkG
          have hw := hP.out
          rw [List.drop_eq_getElem_cons hkG, List.all_cons] at hw
          generalize G[k] = x at e0 e1 hw
          obtain ⟨M, O⟩ := x
          simp only [tyG] at e0 e1 hw
          clear hP hkG
          rcases em_cases O with ⟨k1, rfl⟩ | ⟨k1, k2, k3⟩
          · rw [k1, Bool.true_or, Bool.true_and] at hw
            have HW := Lib.hid hw
            clear hw k1
            go_wp2_with fail
            exact ⟨⟨k + 1, by omega, by go_num, HW, by trivial⟩, by simp [intOf]; omega⟩
          · rw [k1, Bool.false_or] at hw
            clear k1
            by_cases he : O = o
            · subst he
              rw [beq_self_eq_true, Bool.true_and] at hw
              have HW := Lib.hid hw
              clear hw
              go_wp2_with fail
              exact ⟨⟨k + 1, by omega, by go_num, HW, by trivial⟩, by simp [intOf]; omega⟩
            · have q2 : ¬ O.toList = o.toList := fun h => he (tl_eq h)
              have q1 : (O.toList == o.toList) = false := by rw [beq_eq_false_iff_ne]; exact q2
              obtain rfl : R1 = false := by rw [q1] at hw; exact hw.symm
              clear hw
              go_wp2_with fail
              go_ret
              exact ⟨rfl, hb2⟩
        · obtain rfl : ng = k := by omega
          have hw := hP.out
          rw [List.drop_of_length_le (by rw [HNG.out]; omega)] at hw
          obtain rfl : R2 = R1 := hw
          clear hP h2 h3
          go_wp2_with fail
          obtain ⟨wo2, rfl⟩ : ∃ wo : World, wo = wr := ⟨_, rfl⟩
          go_loopw [7] (fun v7 wq => ∃ k : Nat, k ≤ mq ∧ v7 = .int .i64 (k : Int) ∧ Hid ((Q.drop k).all EQ = R2) ∧ Below wo2.heap.size wo2 wq) (fun v7 _ => mq - (intOf v7).toNat)
          case atStart => exact ⟨0, by omega, rfl, H2, Below.refl _ _⟩
          case round =>
            clear H2
            obtain ⟨h, hh, rfl, hP, hB⟩ := hrel
            have hbw := hb2.trans (hB.mono hb2.size)
            have x0 := cells_keepL hB (Nat.le_refl _) _ _ y0
            have x1 := cells_keepL hB (Nat.le_refl _) _ _ y1
            have x2 := cells_keepL hB (Nat.le_refl _) _ _ y2
            by_cases hlt : h < mq
            · have hkQ : h < Q.length := by rw [HNQ.out]; exact hlt
              have hlx := l4.out _ (List.getElem_mem hkQ)
              have HTx := Lib.hid (HT.out _ (List.getElem_mem hkQ))
              obtain ⟨j, hj1, hj2, hj3⟩ := HF.out _ (List.getElem_mem hkQ)
              obtain ⟨b, off, rfl, e0, e1, e2, hT⟩ := (HQ2.out.keep (cells_keepL hB (Nat.le_refl _))) h hkQ
              have hw := hP.out
              rw [List.drop_eq_getElem_cons hkQ, List.all_cons, HE.out, hj3] at hw
              clear hj3
              generalize Q[h] = x at e0 e1 e2 hT hlx hw hj1 HTx
              obtain ⟨i, T, ta, tc, L⟩ := x
              simp only at e0 e1 e2 hT hlx hw hj1 HTx
              subst hj1
              have hjG : j < G.length := by rw [HNG.out]; exact hj2
              obtain ⟨b2, off2, rfl, f0, f1⟩ := (HG2.out.keep (cells_keepL hB (Nat.le_refl _))) j hjG
              rw [grp_at hjG] at hw
              generalize G[j] = x at f0 f1 hw
              obtain ⟨M, O⟩ := x
              simp only at f0 f1 hw
              obtain ⟨nt, hnt⟩ : ∃ n, L.length = n := ⟨_, rfl⟩
              rw [hnt] at e2 hlx
              have HNT := Lib.hid hnt
              have hbN := (Below.refl _ wr).alloc (Nat.le_refl _) (.cells #[.int .i64 (j : Int), .string T, .slice ta nt tc] 48)
              have hN := QB.new wr (j : Int) T (.slice ta nt tc)
              have hbf := hbw.trans (hbN.mono hbw.size)
              have hB2 := hB.trans (hbN.mono hB.size)
              have n0 := hN.c0
              have n2 := hN.c2
              have z0 := cells_keepL hbN (Nat.le_refl _) _ _ x0
              have z1 := cells_keepL hbN (Nat.le_refl _) _ _ x1
              have f1 := cells_keepL hbN (Nat.le_refl _) _ _ f1
              have HTT := Lib.hid (hT.keep (cells_keepL hbN (Nat.le_refl _)))
              have HV3 := Lib.hid (HV2.out.keepL (cells_keepL hB2 (Nat.le_refl _)))
              obtain ⟨R3, hR3⟩ : ∃ R, (Q.drop (h + 1)).all EQ = R := ⟨_, rfl⟩
              rw [hR3] at hw
              have HR3 := Lib.hid hR3
              obtain ⟨eO, heO⟩ : ∃ e, emB O = e := ⟨_, rfl⟩
              rw [heO] at hw
              have HEO := Lib.hid heO
              have H3 : Hid (((L.drop 0).all (fun t => TT t || !eO) && R3) = R2) := hw
              clear hP hkQ hB hbw hT x0 x1 hnt hjG f0 hw hR3 heO
              go_wp2_with fail
              clear e0 e1 e2
              generalize hp8 : wr.heap.size = p8 at hN n0 n2 ⊢
              generalize hw5 : World.alloc wr _ = w5 at hbN hN hbf hB2 n0 n2 z0 z1 f1 HTT HV3 ⊢
              clear hw5 hp8
              go_loopw [9] (fun v9 wt => ∃ i : Nat, i ≤ nt ∧ v9 = .int .i64 (i : Int) ∧ Hid (((L.drop i).all (fun t => TT t || !eO) && R3) = R2) ∧ Below w5.heap.size w5 wt) (fun v9 _ => nt - (intOf v9).toNat)
              case atStart => exact ⟨0, by omega, rfl, H3, Below.refl _ _⟩
              case round =>
                clear H3
                obtain ⟨i, hi, rfl, hP, hBd⟩ := hrel
                by_cases hlj : i < nt
                · have hjL : i < L.length := by rw [HNT.out]; exact hlj
                  obtain ⟨c, hc1, hc2, hc3⟩ := HTx.out _ (List.getElem_mem hjL)
                  obtain ⟨b3, off3, rfl, e5, e6, e7, e8⟩ := (HTT.out.keep (cells_keepL hBd (Nat.le_refl _))) i hjL
                  have hcW : c < W.length := by rw [HNV.out]; exact hc2
                  obtain ⟨b4, off4, rfl, v0⟩ := (HV3.out.keepL (cells_keepL hBd (Nat.le_refl _))) c hcW
                  have hw := hP.out
                  rw [List.drop_eq_getElem_cons hjL, List.all_cons, hc3, var_at hcW] at hw
                  clear hc3
                  generalize W[c] = x at v0 hw
                  generalize L[i] = y at e5 e6 e7 e8 hc1
                  obtain ⟨s, u, g, E⟩ := y
                  simp only at e5 e6 e7 e8 hc1
                  subst hc1
                  have n0' := cells_keepL hBd (Nat.le_refl _) _ _ n0
                  have n2' := cells_keepL hBd (Nat.le_refl _) _ _ n2
                  have z0' := cells_keepL hBd (Nat.le_refl _) _ _ z0
                  have z1' := cells_keepL hBd (Nat.le_refl _) _ _ z1
                  have f1' := cells_keepL hBd (Nat.le_refl _) _ _ f1
                  have HBB := Lib.hid (And.intro (hbf.trans (hBd.mono hbf.size)) hBd)
                  clear hP hjL hcW n0 n2 z0 z1 f1 hBd hbf hB2 hbN e5 e7 e8 hN y0 y1 y2 x2
                  rcases em_cases x with ⟨k1, rfl⟩ | ⟨k1, k2, k3⟩
                  · rw [k1] at hw
                    clear k1
                    rcases em_cases O with ⟨o1, rfl⟩ | ⟨o1, o2, o3⟩
                    · obtain rfl : eO = true := HEO.out.symm.trans o1
                      obtain rfl : R2 = false := hw.symm
                      clear hw o1
                      go_wp2_with fail
                      go_quiet (fail)
                      have hbq : Below w.heap.size w (wr.drewN nq) := HBB.out.1.trans ((Below.drewNL _ _ _).mono HBB.out.1.size)
                      generalize World.drewN _ _ = w7 at hbq ⊢
                      go_wp2_with fail
                      go_ret
                      exact ⟨rfl, hbq⟩
                    · obtain rfl : eO = false := HEO.out.symm.trans o1
                      have HW : Hid (((L.drop (i + 1)).all (fun t => TT t || !false) && R3) = R2) := hw
                      clear hw o1
                      go_wp2_with fail
                      go_quiet (fail)
                      have hBq : Below w5.heap.size w5 (wr.drewN nq) := HBB.out.2.trans ((Below.drewNL _ _ _).mono HBB.out.2.size)
                      generalize World.drewN _ _ = w7 at hBq ⊢
                      go_wp2_with fail
                      exact ⟨⟨i + 1, by omega, by go_num, HW, hBq⟩, by simp [intOf]; omega⟩
                  · rw [k1] at hw
                    have HW : Hid (((L.drop (i + 1)).all (fun t => TT t || !eO) && R3) = R2) := hw
                    clear hw k1
                    go_wp2_with fail
                    go_quiet (fail)
                    have hBq : Below w5.heap.size w5 (wr.drewN nq) := HBB.out.2.trans ((Below.drewNL _ _ _).mono HBB.out.2.size)
                    generalize World.drewN _ _ = w7 at hBq ⊢
                    go_wp2_with fail
                    exact ⟨⟨i + 1, by omega, by go_num, HW, hBq⟩, by simp [intOf]; omega⟩
                · obtain rfl : nt = i := by omega
                  have hw := hP.out
                  rw [List.drop_of_length_le (by rw [HNT.out]; omega)] at hw
                  have hR : R3 = R2 := hw
                  have hz : Hid ((Q.drop (h + 1)).all EQ = R2) := by rw [← hR]; exact HR3
                  have hB5 := hB2.trans (hBd.mono hB2.size)
                  have n2' := cells_keepL hBd (Nat.le_refl _) _ _ n2
                  clear hP hR n2 n0 z0 z1 f1
                  go_wp2_with fail
                  exact ⟨⟨h + 1, by omega, by go_num, hz, hB5⟩, by simp [intOf]; omega⟩
            · obtain rfl : mq = h := by omega
              have hw := hP.out
              rw [List.drop_of_length_le (by rw [HNQ.out]; omega)] at hw
              obtain rfl : true = R2 := hw
              clear hP
              go_wp2_with fail
              go_ret
              exact ⟨rfl, hbw⟩
set_option maxHeartbeats 4000000 in
theorem rrest_any (a : StA) (S : StM) (w : World) (hS : SS w a S) (hok : S.ok) (hf : formB S.pl = true) (h64 : ∀ g ∈ S.G, g.1.size ≤ 64) :
    Calls Tryz.prog 35 #[.agg #[.slice a.ga S.G.length a.gc, .slice a.va S.V.length a.vc, .slice a.qa S.Q.length a.qc]] w fun e w' => e = .returned (.int .i64 (rstE S.pl)) ∧ Below w.heap.size w w' := by
  have hb := (Below.refl _ w).alloc (Nat.le_refl _) (.cells #[.slice a.ga S.G.length a.gc, .slice a.va S.V.length a.vc, .slice a.qa S.Q.length a.qc] 26)
  have hX := SXB.new w a S
  have hS0 := hS.below hb (Nat.le_refl _)
  have H2 := Lib.hid (fun w' (hb' : Below (w.alloc (.cells #[.slice a.ga S.G.length a.gc, .slice a.va S.V.length a.vc, .slice a.qa S.Q.length a.qc] 26)).heap.size (w.alloc (.cells #[.slice a.ga S.G.length a.gc, .slice a.va S.V.length a.vc, .slice a.qa S.Q.length a.qc] 26)) w') => rmany_any a S w' (hS0.below hb' (Nat.le_refl _)) hok)
  have H3 := Lib.hid (fun w' (hb' : Below (w.alloc (.cells #[.slice a.ga S.G.length a.gc, .slice a.va S.V.length a.vc, .slice a.qa S.Q.length a.qc] 26)).heap.size (w.alloc (.cells #[.slice a.ga S.G.length a.gc, .slice a.va S.V.length a.vc, .slice a.qa S.Q.length a.qc] 26)) w') => relements_any a S w' (hS0.below hb' (Nat.le_refl _)) hok hf h64)
  have H4 := Lib.hid (fun w' (hb' : Below (w.alloc (.cells #[.slice a.ga S.G.length a.gc, .slice a.va S.V.length a.vc, .slice a.qa S.Q.length a.qc] 26)).heap.size (w.alloc (.cells #[.slice a.ga S.G.length a.gc, .slice a.va S.V.length a.vc, .slice a.qa S.Q.length a.qc] 26)) w') => rtyped_any a S w' (hS0.below hb' (Nat.le_refl _)) hok hf)
  have HL : rstE S.pl = if manyB S.pl = true then 6 else if elB S.pl = true then (if typB S.pl = true then 0 else 10) else 13 := rfl
  obtain ⟨Z, hZ⟩ : ∃ Z, rstE S.pl = Z := ⟨_, rfl⟩
  rw [hZ] at HL ⊢
  obtain ⟨M, hM⟩ : ∃ F, manyB S.pl = F := ⟨_, rfl⟩
  obtain ⟨E, hE⟩ : ∃ F, elB S.pl = F := ⟨_, rfl⟩
  obtain ⟨T, hT⟩ : ∃ F, typB S.pl = F := ⟨_, rfl⟩
  rw [hM] at H2 HL
  rw [hE] at H3 HL
  rw [hT] at H4 HL
  have HZ := Lib.hid HL
  have hX0 := hX.c0
  have hX1 := hX.c1
  have hX2 := hX.c2
  clear hZ HL hM hE hT hS hS0 hok hX hf h64
  cases M
  rotate_left
  · obtain rfl : Z = 6 := HZ.out
    go_enter Tryz.func35, Tryz.ntmps35
    go_wp2_with fail
    generalize hw0 : World.alloc _ _ = w0 at hb hX0 hX1 hX2 H2 ⊢
    clear hw0
    go_wp2_with fail
    refine (H2.out _ (Below.refl _ _)).mono ?_; rintro e w1 ⟨rfl, b1⟩
    have hb1 := hb.trans (b1.mono hb.size)
    go_wp2_with fail
    go_ret
    exact ⟨rfl, hb1⟩
  cases E
  · obtain rfl : Z = 13 := HZ.out
    go_enter Tryz.func35, Tryz.ntmps35
    go_wp2_with fail
    generalize hw0 : World.alloc _ _ = w0 at hb hX0 hX1 hX2 H2 H3 ⊢
    clear hw0
    go_wp2_with fail
    refine (H2.out _ (Below.refl _ _)).mono ?_; rintro e w1 ⟨rfl, b1⟩
    have hb1 := hb.trans (b1.mono hb.size)
    have x0 := cells_keepL b1 (Nat.le_refl _) _ _ hX0
    have x1 := cells_keepL b1 (Nat.le_refl _) _ _ hX1
    have x2 := cells_keepL b1 (Nat.le_refl _) _ _ hX2
    go_wp2_with fail
    refine (H3.out _ b1).mono ?_; rintro e w2 ⟨rfl, b2⟩
    have hb2 := hb1.trans (b2.mono hb1.size)
    go_wp2_with fail
    go_ret
    exact ⟨rfl, hb2⟩
  cases T
  all_goals
    first | obtain rfl : Z = 10 := HZ.out | obtain rfl : Z = 0 := HZ.out
    go_enter Tryz.func35, Tryz.ntmps35
    go_wp2_with fail
    generalize hw0 : World.alloc _ _ = w0 at hb hX0 hX1 hX2 H2 H3 H4 ⊢
    clear hw0
    go_wp2_with fail
    refine (H2.out _ (Below.refl _ _)).mono ?_; rintro e w1 ⟨rfl, b1⟩
    have hb1 := hb.trans (b1.mono hb.size)
    have x0 := cells_keepL b1 (Nat.le_refl _) _ _ hX0
    have x1 := cells_keepL b1 (Nat.le_refl _) _ _ hX1
    have x2 := cells_keepL b1 (Nat.le_refl _) _ _ hX2
    go_wp2_with fail
    refine (H3.out _ b1).mono ?_; rintro e w2 ⟨rfl, b2⟩
    have hb2 := hb1.trans (b2.mono hb1.size)
    have b12 := b1.trans (b2.mono b1.size)
    have y0 := cells_keepL b2 (Nat.le_refl _) _ _ x0
    have y1 := cells_keepL b2 (Nat.le_refl _) _ _ x1
    have y2 := cells_keepL b2 (Nat.le_refl _) _ _ x2
    clear x0 x1 x2 hX0 hX1 hX2
    go_wp2_with fail
    refine (H4.out _ b12).mono ?_; rintro e w3 ⟨rfl, b3⟩
    have hb3 := hb2.trans (b3.mono hb2.size)
    go_wp2_with fail
    go_ret
    exact ⟨rfl, hb3⟩
theorem rcheck_any (a : StA) (S : StM) (w : World) (hS : SS w a S) (hok : S.ok) (h64 : ∀ g ∈ S.G, g.1.size ≤ 64) :
    Calls Tryz.prog 13 #[.agg #[.slice a.ga S.G.length a.gc, .slice a.va S.V.length a.vc, .slice a.qa S.Q.length a.qc]] w fun e w' => e = .returned (.int .i64 (lckE S.pl)) ∧ Below w.heap.size w w' := by
  have hb := (Below.refl _ w).alloc (Nat.le_refl _) (.cells #[.slice a.ga S.G.length a.gc, .slice a.va S.V.length a.vc, .slice a.qa S.Q.length a.qc] 26)
  have hX := SXB.new w a S
  have hS0 := hS.below hb (Nat.le_refl _)
  have H1 := Lib.hid (rformed_any a S (w.alloc (.cells #[.slice a.ga S.G.length a.gc, .slice a.va S.V.length a.vc, .slice a.qa S.Q.length a.qc] 26)) hS0 hok)
  have H2 := Lib.hid (fun w' (hb' : Below (w.alloc (.cells #[.slice a.ga S.G.length a.gc, .slice a.va S.V.length a.vc, .slice a.qa S.Q.length a.qc] 26)).heap.size (w.alloc (.cells #[.slice a.ga S.G.length a.gc, .slice a.va S.V.length a.vc, .slice a.qa S.Q.length a.qc] 26)) w') hf => rrest_any a S w' (hS0.below hb' (Nat.le_refl _)) hok hf h64)
  have HL : lckE S.pl = if formB S.pl = true then rstE S.pl else 3 := rfl
  rw [HL]
  obtain ⟨F, hF⟩ : ∃ F, formB S.pl = F := ⟨_, rfl⟩
  obtain ⟨E, hE⟩ : ∃ F, rstE S.pl = F := ⟨_, rfl⟩
  rw [hF] at H1 H2 ⊢
  rw [hE] at H2 ⊢
  have hX0 := hX.c0
  have hX1 := hX.c1
  have hX2 := hX.c2
  clear HL hF hE hS hS0 hok hX h64
  cases F
  · rw [if_neg (by decide)]
    go_enter Tryz.func13, Tryz.ntmps13
    go_wp2_with fail
    generalize hw0 : World.alloc _ _ = w0 at hb hX0 hX1 hX2 H1 ⊢
    clear hw0
    go_wp2_with fail
    refine H1.out.mono ?_; rintro e w1 ⟨rfl, b1⟩
    have hb1 := hb.trans (b1.mono hb.size)
    go_wp2_with fail
    go_ret
    exact ⟨rfl, hb1⟩
  · rw [if_pos rfl]
    go_enter Tryz.func13, Tryz.ntmps13
    go_wp2_with fail
    generalize hw0 : World.alloc _ _ = w0 at hb hX0 hX1 hX2 H1 H2 ⊢
    clear hw0
    go_wp2_with fail
    refine H1.out.mono ?_; rintro e w1 ⟨rfl, b1⟩
    have hb1 := hb.trans (b1.mono hb.size)
    have x0 := cells_keepL b1 (Nat.le_refl _) _ _ hX0
    have x1 := cells_keepL b1 (Nat.le_refl _) _ _ hX1
    have x2 := cells_keepL b1 (Nat.le_refl _) _ _ hX2
    go_wp2_with fail
    refine (H2.out _ b1 (by trivial)).mono ?_; rintro e w2 ⟨rfl, b2⟩
    have hb2 := hb1.trans (b2.mono hb1.size)
    go_wp2_with fail
    go_ret
    exact ⟨rfl, hb2⟩
end Go.Proofs.YtcbamkgomnhdbaaGreatDoor
