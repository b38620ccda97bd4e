import Derived.Test.YtcbamkgomnhdbaaGreatDoorLlA
/- The reference of layer 15: InRange, check, images, Images, Holds. -/
namespace Go.Proofs.YtcbamkgomnhdbaaGreatDoor
open Go.RowKit Num
set_option maxRecDepth 20000
set_option linter.unusedVariables false
theorem rcmpL {s t : ByteArray} {a b : Nat} {z : Int} (hs : IsN s a) (ht : IsN t b) (h : ncmp a b = z) : ∀ w, Calls Tryz.prog 20 #[.string s, .string t] w fun e w' => e = .returned (.int .i64 z) ∧ Below w.heap.size w w' := fun w => (refCmp_any s t a b w hs ht).mono fun _ _ ⟨h1, h2⟩ => ⟨by rw [h1, h], h2⟩
set_option maxHeartbeats 4000000 in
theorem rinr_any (x o : ByteArray) (y : Bool × ByteArray) (w : World) (hx : IsN x (Num.nv x)) (ho : IsN o (Num.nv o)) (hy : IsN y.2 (Num.nv y.2)) :
    Calls Tryz.prog 40 #[.agg #[.string x], .string o, .agg #[.bool y.1, .string y.2]] w fun e w' => e = .returned (.bool (inV o x y)) ∧ Below w.heap.size w w' := by
  obtain ⟨ng, E⟩ := y
  simp only [inV] at hy ⊢
  have hV := VrB.new w x
  have hb1 := (Below.refl _ w).alloc (Nat.le_refl _) (.cells #[.string x] 52)
  have hb := hb1.alloc hb1.size (.cells #[.bool ng, .string E] 54)
  have hI := IBL.new (w.alloc (.cells #[.string x] 52)) ng E
  rw [World.size_alloc] at hI
  have hV2 := hV.below ((Below.refl _ (w.alloc (.cells #[.string x] 52))).alloc (Nat.le_refl _) (.cells #[.bool ng, .string E] 54)) hV.lt
  have c0 := hV2.c0
  have i0 := hI.c0
  have i1 := hI.c1
  clear hV hb1 hV2 hI
  rcases em_cases x with ⟨h1, rfl⟩ | ⟨h1, h2, h3⟩
  · rw [if_pos h1]
    clear h1
    cases ng
    · obtain ⟨D, hD⟩ : ∃ D, decide (Num.nv E < Num.nv o) = D := ⟨_, rfl⟩
      rw [show (!false && decide (Num.nv E < Num.nv o)) = D from hD]
      rcases ncmpLt (Num.nv E) (Num.nv o) with ⟨t1, t2⟩ | ⟨t1, t2 | t2⟩
      all_goals
        first | (have hq := hD.symm.trans (decide_eq_true t1); subst hq) | (have hq := hD.symm.trans (decide_eq_false t1); subst hq)
        have HC := Lib.hid (rcmpL hy ho t2)
        clear t1 t2 hy ho hx hD
        go_enter Tryz.func40, Tryz.ntmps40
        go_wp2_with fail
        refine (HC.out _).mono ?_; rintro e w6 ⟨rfl, b6⟩
        have hb6 := hb.trans (b6.mono hb.size)
        go_wp2_with fail
        go_ret
        exact ⟨rfl, hb6⟩
    · clear hx ho hy
      go_enter Tryz.func40, Tryz.ntmps40
      go_wp2_with fail
      go_ret
      exact ⟨rfl, hb⟩
  · rw [if_neg (by rw [h1]; decide)]
    clear h1
    obtain ⟨D, hD⟩ : ∃ D, decide (Num.nv E < Num.nv x) = D := ⟨_, rfl⟩
    rw [hD]
    rcases ncmpLt (Num.nv E) (Num.nv x) with ⟨t1, t2⟩ | ⟨t1, t2 | t2⟩
    all_goals
      first | (have hq := hD.symm.trans (decide_eq_true t1); subst hq) | (have hq := hD.symm.trans (decide_eq_false t1); subst hq)
      have HC := Lib.hid (rcmpL hy hx t2)
      clear t1 t2 hy ho hx hD
      go_enter Tryz.func40, Tryz.ntmps40
      go_wp2_with fail
      refine (HC.out _).mono ?_; rintro e w6 ⟨rfl, b6⟩
      have hb6 := hb.trans (b6.mono hb.size)
      go_wp2_with fail
      go_ret
      exact ⟨rfl, hb6⟩
set_option maxHeartbeats 8000000 in
theorem rready_any (a : StA) (S : StM) (bo : Option Addr) (n c : Nat) (l : List (Bool × ByteArray)) (w : World) (hS : SS w a S) (hok : S.ok) (hl : IS w bo l) (hn : l.length = n) (hn1 : n ≤ maxLen) (h64 : ∀ g ∈ S.G, g.1.size ≤ 64) :
    Calls Tryz.prog 39 #[.agg #[.slice a.ga S.G.length a.gc, .slice a.va S.V.length a.vc, .slice a.qa S.Q.length a.qc], .slice bo n c] w fun e w' => e = .returned (.int .i64 (rdE S.pl l)) ∧ Below w.heap.size w w' := by
  have hb := (Below.refl _ w).alloc (Nat.le_refl _) (.cells #[.slice a.ga S.G.length a.gc, .slice a.va S.V.length a.vc, .slice a.qa S.Q.length a.qc] 26)
  have hX := SXB.new w a S
  have hS0 := hS.below hb (Nat.le_refl _)
  have hl0 := hl.below hb (Nat.le_refl _)
  have H1 := Lib.hid (rformed_any a S (w.alloc (.cells #[.slice a.ga S.G.length a.gc, .slice a.va S.V.length a.vc, .slice a.qa S.Q.length a.qc] 26)) hS0 hok)
  have H3 := Lib.hid (fun w' (hb' : Below (w.alloc (.cells #[.slice a.ga S.G.length a.gc, .slice a.va S.V.length a.vc, .slice a.qa S.Q.length a.qc] 26)).heap.size (w.alloc (.cells #[.slice a.ga S.G.length a.gc, .slice a.va S.V.length a.vc, .slice a.qa S.Q.length a.qc] 26)) w') hf => rrest_any a S w' (hS0.below hb' (Nat.le_refl _)) hok hf h64)
  have HL : rdE S.pl l = if formB S.pl = true ∧ l.all ivB = true then (if rstE S.pl = 0 then (if l.length = S.V.length then 0 else 6) else rstE S.pl) else 3 := rfl
  obtain ⟨Z, hZ⟩ : ∃ Z, rdE S.pl l = Z := ⟨_, rfl⟩
  rw [hZ, hn] at HL
  rw [hZ]
  obtain ⟨F, hF⟩ : ∃ F, formB S.pl = F := ⟨_, rfl⟩
  obtain ⟨E, hE⟩ : ∃ F, rstE S.pl = F := ⟨_, rfl⟩
  obtain ⟨M, hM⟩ : ∃ F, l.all ivB = F := ⟨_, rfl⟩
  rw [hF] at H1 H3 HL
  rw [hE] at H3 HL
  rw [hM] at HL
  have HM : Hid ((l.drop 0).all ivB = M) := hM
  have l2 : S.V.length ≤ maxLen := hok.vl
  have hX0 := hX.c0
  have hX1 := hX.c1
  have hX2 := hX.c2
  have HLL := Lib.hid hl0
  have HNN := Lib.hid hn
  obtain ⟨nw, hnw⟩ : ∃ n, S.V.length = n := ⟨_, rfl⟩
  simp only [hnw] at hb hX0 hX1 hX2 H1 H3 HL HLL l2 ⊢
  have HZ := Lib.hid HL
  unfold maxLen at l2 hn1
  clear hZ HL hF hM hE hS hS0 hok hX hl hl0 hn hnw h64
  cases F
  · obtain rfl : Z = 3 := by have := HZ.out; rw [if_neg (by simp)] at this; exact this
    go_enter Tryz.func39, Tryz.ntmps39
    go_wp2_with fail
    generalize hw0 : World.alloc _ _ = w0 at hb hX0 hX1 hX2 H1 ⊢
    clear hw0
    go_wp2_with fail
    refine H1.out.mono ?_; rintro e w1 ⟨rfl, b1⟩
    have hb1 := hb.trans (b1.mono hb.size)
    go_wp2_with fail
    go_ret
    exact ⟨rfl, hb1⟩
  go_enter Tryz.func39, Tryz.ntmps39
  go_wp2_with fail
  generalize hw0 : World.alloc _ _ = w0 at hb hX0 hX1 hX2 H1 H3 HLL ⊢
  clear hw0
  go_wp2_with fail
  refine H1.out.mono ?_; rintro e w1 ⟨rfl, b1⟩
  clear H1
  go_wp2_with fail
  go_loopw [5] (fun v5 wr => ∃ k : Nat, k ≤ n ∧ v5 = .int .i64 (k : Int) ∧ Hid ((l.drop k).all ivB = M) ∧ Below w0.heap.size w0 wr) (fun v5 _ => n - (intOf v5).toNat)
  case atStart => exact ⟨0, by omega, rfl, HM, b1⟩
  case round =>
    clear HM b1
    obtain ⟨k, hk, rfl, hP, hB⟩ := hrel
    have hbw := hb.trans (hB.mono hb.size)
    by_cases hlt : k < n
    · have hkl : k < l.length := by rw [HNN.out]; exact hlt
      obtain ⟨b2, off2, rfl, f0, f1⟩ := (HLL.out.keepL (cells_keepL hB (Nat.le_refl _))) k hkl
      have hw := hP.out
      rw [List.drop_eq_getElem_cons hkl, List.all_cons] at hw
      generalize l[k] = y at f0 f1 hw
      obtain ⟨g, s⟩ := y
      simp only at f0 f1
      clear hP hkl
      cases hv : ivB (g, s)
      · rw [hv] at hw
        obtain rfl : M = false := by rw [← hw]; rfl
        obtain rfl : Z = 3 := by have := HZ.out; rw [if_neg (by simp)] at this; exact this
        have HV := Lib.hid (rivalidW hv)
        clear hv hw HZ
        go_wp2_with fail
        refine (HV.out _).mono ?_; rintro e w2 ⟨rfl, b2⟩
        have hb2 := hbw.trans (b2.mono hbw.size)
        go_wp2_with fail
        go_ret
        exact ⟨rfl, hb2⟩
      · have HV := Lib.hid (rivalidW hv)
        rw [hv, Bool.true_and] at hw
        have HW := Lib.hid hw
        clear hv hw
        go_wp2_with fail
        refine (HV.out _).mono ?_; rintro e w2 ⟨rfl, b2⟩
        have hB2 := hB.trans (b2.mono hB.size)
        go_wp2_with fail
        exact ⟨⟨k + 1, by omega, by go_num, HW, hB2⟩, by simp [intOf]; omega⟩
    · obtain rfl : n = k := by omega
      have hw := hP.out
      rw [List.drop_of_length_le (by rw [HNN.out]; omega)] at hw
      obtain rfl : true = M := hw
      have hz := HZ.out
      rw [if_pos (by simp)] at hz
      have x0 := cells_keepL hB (Nat.le_refl _) _ _ hX0
      have x1 := cells_keepL hB (Nat.le_refl _) _ _ hX1
      have x2 := cells_keepL hB (Nat.le_refl _) _ _ hX2
      clear HZ hP HLL
      by_cases hE0 : E = 0
      · subst hE0
        rw [if_pos rfl] at hz
        by_cases hln : n = nw
        · subst hln
          rw [if_pos rfl] at hz
          subst hz
          have q1 : ((n : Int) != (n : Int)) = false := by simp
          go_wp2_with fail
          refine (H3.out _ hB (by trivial)).mono ?_; rintro e w3 ⟨rfl, b3⟩
          have hb3 := hbw.trans (b3.mono hbw.size)
          have y1 := cells_keepL b3 (Nat.le_refl _) _ _ x1
          go_wp2_with fail
          go_ret
          exact ⟨rfl, hb3⟩
        · rw [if_neg hln] at hz
          subst hz
          have q1 : ((n : Int) != (nw : Int)) = true := by rw [bne_iff_ne]; omega
          have q2 : ¬ ((n : Int) = (nw : Int)) := by omega
          go_wp2_with fail
          refine (H3.out _ hB (by trivial)).mono ?_; rintro e w3 ⟨rfl, b3⟩
          have hb3 := hbw.trans (b3.mono hbw.size)
          have y1 := cells_keepL b3 (Nat.le_refl _) _ _ x1
          go_wp2_with fail
          go_ret
          exact ⟨rfl, hb3⟩
      · rw [if_neg hE0] at hz
        subst hz
        have q1 : (Z != 0) = true := by rw [bne_iff_ne]; exact hE0
        have q2 : (Z == 0) = false := by rw [beq_eq_false_iff_ne]; exact hE0
        go_wp2_with fail
        refine (H3.out _ hB (by trivial)).mono ?_; rintro e w3 ⟨rfl, b3⟩
        have hb3 := hbw.trans (b3.mono hbw.size)
        go_wp2_with fail
        go_ret
        exact ⟨rfl, hb3⟩
theorem rmulW {c x : Bool × ByteArray} (hc : ivB c = true) (hx : ivB x = true) (hz : ZOk (zi c * zi x)) (w : World) : Calls Tryz.prog 85 #[.agg #[.bool c.1, .string c.2], .agg #[.bool x.1, .string x.2]] w fun e w' => e = .returned (.tuple #[.agg #[.bool (zm c x).1, .string (zm c x).2], .int .i64 0]) ∧ Below w.heap.size w w' := by
  obtain ⟨h1, h2, h3, _⟩ := zi_iv hc
  obtain ⟨k1, k2, k3, _⟩ := zi_iv hx
  have h := ref2Mul_z (zi c) (zi x) w h3 k3 hz
  rw [← h1, ← h2, ← k1, ← k2] at h
  exact h
theorem keep6L {w1 w2 : World} {K : Nat} {a1 a2 a3 a4 a5 a6 : Addr} {v1 v2 v3 v4 v5 v6 : Value} (h : w1.cell? a1 = some v1 ∧ w1.cell? a2 = some v2 ∧ w1.cell? a3 = some v3 ∧ w1.cell? a4 = some v4 ∧ w1.cell? a5 = some v5 ∧ w1.cell? a6 = some v6) (hw : w1.heap.size ≤ K) (b : Below K w1 w2) :
    w2.cell? a1 = some v1 ∧ w2.cell? a2 = some v2 ∧ w2.cell? a3 = some v3 ∧ w2.cell? a4 = some v4 ∧ w2.cell? a5 = some v5 ∧ w2.cell? a6 = some v6 ∧ Below K w1 w2 :=
  ⟨cells_keepL b hw _ _ h.1, cells_keepL b hw _ _ h.2.1, cells_keepL b hw _ _ h.2.2.1, cells_keepL b hw _ _ h.2.2.2.1, cells_keepL b hw _ _ h.2.2.2.2.1, cells_keepL b hw _ _ h.2.2.2.2.2, b⟩
set_option maxHeartbeats 32000000 in
theorem rimages_any (a : StA) (S : StM) (bo : Option Addr) (n c : Nat) (l : List (Bool × ByteArray)) (w : World) (hS : SS w a S) (hok : S.ok) (hl : IS w bo l) (hn : l.length = n) (hck : lckE S.pl = 0) (hli : l.all ivB = true) (hln : n = S.V.length) (hz : SmS S l) (h64 : ∀ g ∈ S.G, g.1.size ≤ 64) :
    Calls Tryz.prog 42 #[.agg #[.slice a.ga S.G.length a.gc, .slice a.va S.V.length a.vc, .slice a.qa S.Q.length a.qc], .slice bo n c] w (IMP S l w) := by
  have HF := Lib.hid (eq_facts hck hli (hn.trans hln) hz)
  have hmq := many_q (ck_parts hck).2.1
  have hn1 : n ≤ 64 := by omega
  unfold IMP
  have e1 : imS S.pl l = S.Q.map (fun q => imQ S.pl l (eqp q)) := by unfold imS; rw [StM.pl_Q, List.map_map]; rfl
  rw [e1]
  obtain ⟨IM, hIM⟩ : ∃ f, (fun q => imQ S.pl l (eqp q)) = f := ⟨_, rfl⟩
  rw [hIM] at HF ⊢
  obtain ⟨hg8, _, hq64, _⟩ := hmq
  clear hck hli hln hz e1 hIM
  have hb := (Below.refl _ w).alloc (Nat.le_refl _) (.cells #[.slice a.ga S.G.length a.gc, .slice a.va S.V.length a.vc, .slice a.qa S.Q.length a.qc] 26)
  have hX := SXB.new w a S
  have hS0 := hS.below hb (Nat.le_refl _)
  have hl0 := hl.below hb (Nat.le_refl _)
  have hX0 := hX.c0
  have hX2 := hX.c2
  have HG := Lib.hid hS0.g
  have HQ := Lib.hid hS0.q
  have HL := Lib.hid hl0
  have HNN := Lib.hid hn
  have H64 := Lib.hid h64
  obtain ⟨i0, hi, hz0, hz1, hz2⟩ := info_parts info_nat
  obtain ⟨i1, hy, hy0, hy1, hy2⟩ := info_parts info_int2
  have HI := Lib.hid (And.intro (And.intro hi (And.intro hz0 (And.intro hz1 hz2))) (And.intro hy (And.intro hy0 (And.intro hy1 hy2))))
  clear hi hz0 hz1 hz2 hy hy0 hy1 hy2 hS hl hS0 hl0 hX hok hn h64
  unfold EqF at HF
  obtain ⟨ga, gc, va, vc, qa, qc⟩ := a
  obtain ⟨G, V, Q⟩ := S
  simp only at hb hX0 hX2 HG HQ HL HF hg8 hq64 H64 ⊢
  obtain ⟨ng, hng⟩ : ∃ n, G.length = n := ⟨_, rfl⟩
  obtain ⟨mq, hnq⟩ : ∃ n, Q.length = n := ⟨_, rfl⟩
  simp only [hng, hnq] at hb hX0 hX2 HG HQ HL HF hg8 hq64 ⊢
  have HNG := Lib.hid hng
  have HNQ := Lib.hid hnq
  clear hng hnq
  go_enter Tryz.func42, Tryz.ntmps42
  go_wp2_with fail
  generalize hw0 : World.alloc _ _ = w0 at hb hX0 hX2 HG HQ HL ⊢
  clear hw0
  go_wp2_with fail
  have hR := RD.start w0
  go_loopw [6, 7] (fun v6 v7 wr => ∃ k : Nat, k ≤ mq ∧ v7 = .int .i64 (k : Int) ∧ RD w0 wr v6 (.slice none 0 0) k 0 ((Q.take k).map IM) []) (fun _ v7 _ => mq - (intOf v7).toNat)
  case atStart => exact ⟨0, by omega, rfl, hR⟩
  case round =>
    clear hR
    obtain ⟨k, hk, rfl, hR⟩ := hrel
    have hB := hR.bl
    have d0 := cells_keepL hB (Nat.le_refl _) _ _ hX0
    have d2 := cells_keepL hB (Nat.le_refl _) _ _ hX2
    by_cases hlt : k < mq
    · have hkQ : k < Q.length := by rw [HNQ.out]; exact hlt
      obtain ⟨b, off, rfl, e0, e1, e2, hT⟩ := (HQ.out.keep (cells_keepL hB (Nat.le_refl _))) k hkQ
      obtain ⟨j, hj1, hj2, hgE, hgS, htm, h64⟩ := HF.out _ (List.getElem_mem hkQ)
      have hst : (Q.take (k + 1)).map IM = (Q.take k).map IM ++ [IM Q[k]] := by rw [List.take_succ_eq_append_getElem hkQ, List.map_append]; rfl
      generalize IM Q[k] = X at hgS hst
      generalize Q[k] = x at e0 e1 e2 hT hj1 hgE hgS htm h64
      obtain ⟨i, T, ta, tc, L⟩ := x
      simp only at e0 e1 e2 hT hj1 hgE hgS htm h64
      subst hj1
      have hjG : j < G.length := by rw [HNG.out]; exact hj2
      have hm64 := H64.out _ (List.getElem_mem hjG)
      rw [grp_at hjG] at hgE hgS
      obtain ⟨b2, off2, rfl, f0, f1⟩ := (HG.out.keep (cells_keepL hB (Nat.le_refl _))) j hjG
      generalize G[j] = y at f0 f1 hgE hgS hm64
      obtain ⟨M, O⟩ := y
      simp only at f0 f1 hgE hgS hm64
      obtain ⟨nt, hnt⟩ : ∃ n, L.length = n := ⟨_, rfl⟩
      rw [hnt] at e2 h64
      have HST := Lib.hid hst
      have hN := QB.new wr (j : Int) T (.slice ta nt tc)
      have n0 := hN.c0
      have hbN := (Below.refl _ wr).alloc (Nat.le_refl _) (.cells #[.int .i64 (j : Int), .string T, .slice ta nt tc] 48)
      have hR1 := hR.alloc (.cells #[.int .i64 (j : Int), .string T, .slice ta nt tc] 48)
      have x0 := cells_keepL hbN (Nat.le_refl _) _ _ d0
      have f2 := cells_keepL hbN (Nat.le_refl _) _ _ f0
      have f3 := cells_keepL hbN (Nat.le_refl _) _ _ f1
      have HL1 := Lib.hid ((HL.out.keepL (cells_keepL hB (Nat.le_refl _))).keepL (cells_keepL hbN (Nat.le_refl _)))
      have HT1 := Lib.hid (hT.keep (cells_keepL hbN (Nat.le_refl _)))
      have HOK := Lib.hid htm
      have HNT := Lib.hid hnt
      have HPR := Lib.hid (fun w ab c1 ae c2 hN hI => r13Product_any M O ab ae c1 c2 nt nt (lbT L) (leT l L) w hN hI (by unfold lbT; rw [List.length_map, hnt]) (by unfold leT; rw [List.length_map, hnt]) (by omega) (by omega) hm64)
      rw [hgE, hgS] at HPR
      clear hst hnt htm hgE hgS hjG hT hkQ hR hB d0 f0 f1 hbN hm64
      go_wp2_with fail
      clear e0 e1 e2 n0
      generalize hp8 : wr.heap.size = p8 at hN ⊢
      generalize hw1 : World.alloc wr _ = w1 at hN hR1 x0 f2 f3 HL1 HT1 ⊢
      clear hw1 hp8
      have hRi := RD.start w1
      go_loopw [9, 10, 11] (fun v9 v10 v11 wt => ∃ q : Nat, q ≤ nt ∧ v11 = .int .i64 (q : Int) ∧ RD w1 wt v9 v10 q q (lbT (L.take q)) (leT l (L.take q))) (fun _ _ v11 _ => nt - (intOf v11).toNat)
      case atStart => exact ⟨0, by omega, rfl, hRi⟩
      case round =>
        clear hRi
        obtain ⟨q, hq, rfl, hRi⟩ := hrel
        have hB := hRi.bl
        have hN2 := hN.below hB hN.lt
        have n2 := hN2.c2
        by_cases hlq : q < nt
        · have hkL : q < L.length := by rw [HNT.out]; exact hlq
          obtain ⟨b, off, rfl, e0, e1, e2, e3⟩ := (HT1.out.keep (cells_keepL hB (Nat.le_refl _))) q hkL
          obtain ⟨h, hh1, hh2, hc1, hc2, hz⟩ := HOK.out _ (List.getElem_mem hkL)
          have hlb := lbT_take hkL
          have hle := leT_take (l := l) hkL
          obtain ⟨b2, off2, rfl, f0, f1⟩ := (HL1.out.keepL (cells_keepL hB (Nat.le_refl _))).get (show h < l.length from hh2)
          have hwt : witT l L[q] = l.getD h (false, ⟨#[]⟩) := by unfold witT; rw [hh1]; rfl
          rw [← hwt] at f0 f1
          generalize witT l L[q] = x at hc2 hz hle f0 f1 hwt
          clear hwt
          generalize L[q] = y at e0 e1 e2 e3 hh1 hc1 hz hlb hle
          obtain ⟨s, u, g, E⟩ := y
          simp only at e0 e1 e2 e3 hh1 hc1 hz hlb hle
          subst hh1
          have HMU := Lib.hid (rmulW hc1 hc2 hz)
          obtain ⟨xg, xE⟩ := x
          obtain ⟨⟨rg, rE⟩, hr⟩ : ∃ r, zm (g, E) (xg, xE) = r := ⟨_, rfl⟩
          rw [hr] at HMU hle
          have HLB := Lib.hid hlb
          have HLE := Lib.hid hle
          simp only at f0 f1 HMU
          have hj3 : h < n := by have := HNN.out; omega
          clear hc1 hc2 hz hlb hle hr hkL hh2 hN2
          go_wp2_with fail
          go_cut [12, 13] from 35 to 69 (fun v12 v13 wc => ∃ pp : Nat, v12 = .pointer (some ⟨pp, 0, none⟩) ∧ v13 = .int .i64 0 ∧ IBL wc pp rg rE ∧ Below wr.heap.size wr wc)
          case first =>
            have HMK := Lib.hid (fun w' (hw : Below wr.heap.size wr w') => keep6L (w2 := w') ⟨n2, e1, e2, e3, f0, f1⟩ (Nat.le_refl _) hw)
            go_region_held3 (fun w' => w'.cell? ⟨p8, 2, none⟩ = some (.slice (some ⟨b, off, none⟩) nt tc) ∧ w'.cell? ⟨b, off + q * 4 + 1, none⟩ = some (.int .i64 (h : Int)) ∧ w'.cell? ⟨b, off + q * 4 + 2, none⟩ = some (.bool g) ∧ w'.cell? ⟨b, off + q * 4 + 3, none⟩ = some (.string E) ∧ w'.cell? ⟨b2, off2 + h * 2, none⟩ = some (.bool xg) ∧ w'.cell? ⟨b2, off2 + h * 2 + 1, none⟩ = some (.string xE) ∧ Below wr.heap.size wr w')
              (first | exact HMK.out _ (Below.refl _ _).drew | exact HMK.out _ ((Below.refl _ wr).alloc (Nat.le_refl _) _).drew | exact HMK.out _ ((Below.refl _ wr).alloc (Nat.le_refl _) _) | exact HMK.out _ hbn | exact HMK.out _ (hbn.alloc hbn.size _) | exact HMK.out _ ((hbn.setCell (by simp) _).setCell (by simp) _) | assumption)
              ((go_at_call 85; (with_reducible refine (HMU.out _).mono ?_); rintro e wn ⟨rfl, bn⟩; (first | (have hbn : Below wr.heap.size wr wn := (Below.refl _ wr).drew.trans (bn.mono (Nat.le_refl _)); have hrn := trivial) | (have hbn : Below wr.heap.size wr wn := ((Below.refl _ wr).alloc (Nat.le_refl _) (.cells #[.bool false, .string ⟨#[]⟩] 54)).drew.trans (bn.mono (by simp)); have hrn := (IBL.new wr false ⟨#[]⟩).drew.below bn (IBL.new wr false ⟨#[]⟩).lt; have x0 := hrn.c0; have x1 := hrn.c1; have x2 := hrn.f0; have x3 := hrn.f1))))
            · have hS := HMK.out _ (hbn.alloc hbn.size (.cells #[.bool rg, .string rE] 54))
              go_wp2_with fail
              go_meet
              exact ⟨_, rfl, rfl, IBL.new _ _ _, hS.2.2.2.2.2.2⟩
            · have hS := HMK.out _ ((hbn.setCell (p := ⟨wr.heap.size, 0, none⟩) (Nat.le_refl _) (.bool rg)).setCell (p := ⟨wr.heap.size, 1, none⟩) (Nat.le_refl _) (.string rE))
              go_wp2_with fail
              go_meet
              exact ⟨_, rfl, rfl, hrn.put _ _, hS.2.2.2.2.2.2⟩
          case rest =>
            obtain ⟨pp, rfl, rfl, hI, hBc⟩ := hcut
            rename World => wc
            have hRc := hRi.below hBc
            have m2 := cells_keepL hBc (Nat.le_refl _) _ _ n2
            have m0 := cells_keepL hBc (Nat.le_refl _) _ _ e0
            obtain ⟨⟨hi, hz0, hz1, hz2⟩, ⟨hy, hy0, hy1, hy2⟩⟩ := HI.out
            have hR4 := hRc.alloc (.cells #[.string s] 45)
            have hNC := (SB.new wc s).c
            have hI4 := hI.alloc (.cells #[.string s] 45)
            clear n2 e0 e1 e2 e3 f0 f1 hBc hRi hRc hB hI
            go_wp2_with (first
              | (at_builtin; refine wpList_append_own _ rfl (.tmp 57) (.tmp 64) 39 rfl w1.heap.size 45 i0 (.string ⟨#[]⟩) 1 16 Tryz.underlying39 hi hz0 hz1 hz2 rfl (by decide) u9 q ((lbT (L.take q)).map Value.string) rfl hR4.b ⟨wc.heap.size, 0, none⟩ 1 1 [.string s] rfl rfl (oneL hNC) ?o1 ?o2 ?o3 hR4.bl.size ?_; (case o1 => simp [Value.oneCell']); (case o2 => unfold maxLen; omega); (case o3 => omega); intro v1 w9 hown hgrow _; have hR5 := hR4.appB hgrow hown; have hI5 := hI4.grB hR4 hgrow; have g0 := hI5.c0; have g1 := hI5.c1; have hR6 := hR5.alloc (.cells #[.bool rg, .string rE] 54); have hNI := IBL.new w9 rg rE; clear hown hgrow)
              | (at_builtin; refine wpList_append_own _ rfl (.tmp 66) (.tmp 68) 32 rfl w1.heap.size 54 i1 (.agg #[.bool false, .string ⟨#[]⟩]) 2 24 Tryz.underlying32 hy hy0 hy1 hy2 rfl (by decide) u10 q (icl (leT l (L.take q))) rfl hR6.e ⟨w9.heap.size, 0, none⟩ 1 1 [.bool rg, .string rE] rfl rfl (two_cellV hNI.c0 hNI.c1) ?o4 ?o5 ?o6 hR6.bl.size ?_; (case o4 => simp [Value.oneCell']); (case o5 => unfold maxLen; omega); (case o6 => omega); intro v2 w10 hown2 hgrow2 _; have hR7 := hR6.appE hgrow2 hown2; rw [← HLB.out, ← HLE.out] at hR7; clear hown2 hgrow2))
            first | exact ⟨⟨q + 1, by omega, by go_num, hR7⟩, by simp [intOf]; omega⟩ | trace_state
        · obtain rfl : nt = q := by omega
          rw [List.take_of_length_le (by rw [HNT.out]; omega)] at hRi
          obtain ⟨ab, c1, rfl, hnb⟩ := own_NS hRi.b
          obtain ⟨ae, c2, rfl, hie⟩ := own_IS hRi.e
          have n0 := hN2.c0
          have y0 := cells_keepL hB (Nat.le_refl _) _ _ x0
          have g0 := cells_keepL hB (Nat.le_refl _) _ _ f2
          have g1 := cells_keepL hB (Nat.le_refl _) _ _ f3
          have hR2 := hR1.below hB
          have HPP := Lib.hid (HPR.out wr ab c1 ae c2 hnb hie)
          clear hRi hnb hie x0 f2 f3 HPR hR1 hN2 hN hB
          go_wp2_with fail
          refine HPP.out.mono ?_; rintro e w3 ⟨rfl, b3⟩
          have hR3 := hR2.below b3
          obtain ⟨⟨hi, hz0, hz1, hz2⟩, _⟩ := HI.out
          have hR4 := hR3.alloc (.cells #[.string X] 45)
          have hNC := (SB.new w3 X).c
          clear hR2 y0 n0 n2 g0 g1 HPP b3
          go_wp2_with (at_builtin; refine wpList_append_own _ rfl (.tmp 82) (.tmp 84) 39 rfl w0.heap.size 45 i0 (.string ⟨#[]⟩) 1 16 Tryz.underlying39 hi hz0 hz1 hz2 rfl (by decide) u6 k ((Q.take k).map IM |>.map Value.string) rfl hR4.b ⟨w3.heap.size, 0, none⟩ 1 1 [.string X] rfl rfl (oneL hNC) ?o1 ?o2 ?o3 hR4.bl.size ?_; (case o1 => simp [Value.oneCell']); (case o2 => unfold maxLen; omega); (case o3 => omega); intro v1 w9 hown hgrow _; have hR5 := hR4.appB hgrow hown; rw [← HST.out] at hR5; clear hown hgrow)
          first | exact ⟨⟨k + 1, by omega, by go_num, hR5⟩, by simp [intOf]; omega⟩ | trace_state
    · obtain rfl : mq = k := by omega
      rw [List.take_of_length_le (by rw [HNQ.out]; omega)] at hR
      have hbf := hb.trans (hR.bl.mono hb.size)
      obtain ⟨ab, c1, rfl, hnb⟩ := own_NS hR.b
      clear hR hB
      go_wp2_with fail
      go_ret2
      exact ⟨_, _, rfl, hnb, hbf⟩
set_option maxHeartbeats 8000000 in
theorem rImages_any (a : StA) (S : StM) (bo : Option Addr) (n c : Nat) (l : List (Bool × ByteArray)) (w : World) (hS : SS w a S) (hok : S.ok) (hl : IS w bo l) (hn : l.length = n) (hn1 : n ≤ maxLen) (hz : SmS S l) (h64 : ∀ g ∈ S.G, g.1.size ≤ 64) :
    Calls Tryz.prog 18 #[.agg #[.slice a.ga S.G.length a.gc, .slice a.va S.V.length a.vc, .slice a.qa S.Q.length a.qc], .slice bo n c] w fun e w' => ∃ ao m c', e = .returned (.tuple #[.slice ao m c', .int .i64 (rdE S.pl l)]) ∧ m = (imgS S.pl l).length ∧ NS w' ao (imgS S.pl l) ∧ Below w.heap.size w w' := by
  have hb := (Below.refl _ w).alloc (Nat.le_refl _) (.cells #[.slice a.ga S.G.length a.gc, .slice a.va S.V.length a.vc, .slice a.qa S.Q.length a.qc] 26)
  have hX := SXB.new w a S
  have hS0 := hS.below hb (Nat.le_refl _)
  have hl0 := hl.below hb (Nat.le_refl _)
  have hX0 := hX.c0
  have hX1 := hX.c1
  have hX2 := hX.c2
  have HRD := Lib.hid (rready_any a S bo n c l (w.alloc (.cells #[.slice a.ga S.G.length a.gc, .slice a.va S.V.length a.vc, .slice a.qa S.Q.length a.qc] 26)) hS0 hok hl0 hn hn1 h64)
  by_cases h0 : rdE S.pl l = 0
  · obtain ⟨r1, r2, r3, r4⟩ := rd_zero h0
    have HIM := Lib.hid (fun w' (hb' : Below (w.alloc (.cells #[.slice a.ga S.G.length a.gc, .slice a.va S.V.length a.vc, .slice a.qa S.Q.length a.qc] 26)).heap.size (w.alloc (.cells #[.slice a.ga S.G.length a.gc, .slice a.va S.V.length a.vc, .slice a.qa S.Q.length a.qc] 26)) w') => rimages_any a S bo n c l w' (hS0.below hb' (Nat.le_refl _)) hok (hl0.below hb' (Nat.le_refl _)) hn r1 r3 (by omega) hz h64)
    unfold IMP at HIM
    have hi : imgS S.pl l = imS S.pl l := by unfold imgS; rw [if_pos h0]
    have hlen : S.Q.length = (imS S.pl l).length := by unfold imS; rw [List.length_map, StM.pl_Q, List.length_map]
    rw [hi]
    rw [h0] at HRD ⊢
    obtain ⟨I, hI⟩ : ∃ I, imS S.pl l = I := ⟨_, rfl⟩
    rw [hI] at hlen HIM ⊢
    have HLN := Lib.hid hlen
    clear hlen hi hI r1 r2 r3 r4 h0 hz h64 hS hS0 hl hl0 hn hok hX
    go_enter Tryz.func18, Tryz.ntmps18
    go_wp2_with fail
    generalize hw0 : World.alloc _ _ = w0 at hb hX0 hX1 hX2 HRD HIM ⊢
    clear hw0
    go_wp2_with fail
    refine HRD.out.mono ?_; rintro e w1 ⟨rfl, b1⟩
    have hb1 := hb.trans (b1.mono hb.size)
    have y0 := cells_keepL b1 (Nat.le_refl _) _ _ hX0
    have y1 := cells_keepL b1 (Nat.le_refl _) _ _ hX1
    have y2 := cells_keepL b1 (Nat.le_refl _) _ _ hX2
    go_wp2_with fail
    refine (HIM.out _ b1).mono ?_; rintro e w2 ⟨ao, c', rfl, hN, b2⟩
    have hb2 := hb1.trans (b2.mono hb1.size)
    go_wp2_with fail
    go_ret2
    exact ⟨_, _, _, rfl, HLN.out, hN, hb2⟩
  · have hi : imgS S.pl l = [] := by unfold imgS; rw [if_neg h0]
    rw [hi]
    obtain ⟨Z, hZ⟩ : ∃ Z, rdE S.pl l = Z := ⟨_, rfl⟩
    rw [hZ] at h0 HRD ⊢
    have q1 : (Z != 0) = true := by rw [bne_iff_ne]; exact h0
    have q2 : (Z == 0) = false := by rw [beq_eq_false_iff_ne]; exact h0
    clear hi hZ hz h64 hS hS0 hl hl0 hn hok hX
    go_enter Tryz.func18, Tryz.ntmps18
    go_wp2_with fail
    generalize hw0 : World.alloc _ _ = w0 at hb hX0 hX1 hX2 HRD ⊢
    clear hw0
    go_wp2_with fail
    refine HRD.out.mono ?_; rintro e w1 ⟨rfl, b1⟩
    have hb1 := hb.trans (b1.mono hb.size)
    go_wp2_with fail
    go_ret2
    exact ⟨_, _, _, rfl, rfl, NS.nil _ _, hb1⟩
set_option maxHeartbeats 8000000 in
theorem rholds_any (a : StA) (S : StM) (bo : Option Addr) (n c : Nat) (l : List (Bool × ByteArray)) (w : World) (hS : SS w a S) (hok : S.ok) (hl : IS w bo l) (hn : l.length = n) (hn1 : n ≤ maxLen) (hz : SmS S l) (h64 : ∀ g ∈ S.G, g.1.size ≤ 64) :
    Calls Tryz.prog 16 #[.agg #[.slice a.ga S.G.length a.gc, .slice a.va S.V.length a.vc, .slice a.qa S.Q.length a.qc], .slice bo n c] w fun e w' => e = .returned (.tuple #[.bool (hldS S.pl l), .int .i64 (rdE S.pl l)]) ∧ Below w.heap.size w w' := by
  have hb := (Below.refl _ w).alloc (Nat.le_refl _) (.cells #[.slice a.ga S.G.length a.gc, .slice a.va S.V.length a.vc, .slice a.qa S.Q.length a.qc] 26)
  have hX := SXB.new w a S
  have hS0 := hS.below hb (Nat.le_refl _)
  have hl0 := hl.below hb (Nat.le_refl _)
  have hX0 := hX.c0
  have hX1 := hX.c1
  have hX2 := hX.c2
  have HRD := Lib.hid (rready_any a S bo n c l (w.alloc (.cells #[.slice a.ga S.G.length a.gc, .slice a.va S.V.length a.vc, .slice a.qa S.Q.length a.qc] 26)) hS0 hok hl0 hn hn1 h64)
  by_cases h0 : rdE S.pl l = 0
  rotate_left
  · have hi : hldS S.pl l = false := by unfold hldS; rw [decide_eq_false h0]; rfl
    rw [hi]
    obtain ⟨Z, hZ⟩ : ∃ Z, rdE S.pl l = Z := ⟨_, rfl⟩
    rw [hZ] at h0 HRD ⊢
    have q1 : (Z != 0) = true := by rw [bne_iff_ne]; exact h0
    have q2 : (Z == 0) = false := by rw [beq_eq_false_iff_ne]; exact h0
    clear hi hZ hz h64 hS hS0 hl hl0 hn hok hX
    go_enter Tryz.func16, Tryz.ntmps16
    go_wp2_with fail
    generalize hw0 : World.alloc _ _ = w0 at hb hX0 hX1 hX2 HRD ⊢
    clear hw0
    go_wp2_with fail
    refine HRD.out.mono ?_; rintro e w1 ⟨rfl, b1⟩
    have hb1 := hb.trans (b1.mono hb.size)
    go_wp2_with fail
    go_ret2
    exact ⟨rfl, hb1⟩
  obtain ⟨r1, r2, r3, r4⟩ := rd_zero h0
  have HO := Lib.hid (fun w' (hb' : Below (w.alloc (.cells #[.slice a.ga S.G.length a.gc, .slice a.va S.V.length a.vc, .slice a.qa S.Q.length a.qc] 26)).heap.size (w.alloc (.cells #[.slice a.ga S.G.length a.gc, .slice a.va S.V.length a.vc, .slice a.qa S.Q.length a.qc] 26)) w') => rorder_any a S w' (hS0.below hb' (Nat.le_refl _)) hok)
  have hff := r2
  rw [formB_pl, Bool.and_eq_true, Bool.and_eq_true] at hff
  have HVV : Hid (∀ x ∈ S.V, IsN x (Num.nv x)) := fun x hx => isN_of_valid (List.all_eq_true.1 hff.2.1 x hx)
  have HLI : Hid (∀ x ∈ l, IsN x.2 (Num.nv x.2)) := fun x hx => by
    have h := List.all_eq_true.1 r3 x hx
    unfold ivB at h
    rw [Bool.and_eq_true] at h
    exact isN_of_valid h.1
  have HOI := Lib.hid (ord_valid hff.1)
  have HLN := Lib.hid r4
  clear hff
  have HIM := Lib.hid (fun w' (hb' : Below (w.alloc (.cells #[.slice a.ga S.G.length a.gc, .slice a.va S.V.length a.vc, .slice a.qa S.Q.length a.qc] 26)).heap.size (w.alloc (.cells #[.slice a.ga S.G.length a.gc, .slice a.va S.V.length a.vc, .slice a.qa S.Q.length a.qc] 26)) w') => rimages_any a S bo n c l w' (hS0.below hb' (Nat.le_refl _)) hok (hl0.below hb' (Nat.le_refl _)) hn r1 r3 (by omega) hz h64)
  unfold IMP at HIM
  have hi : hldS S.pl l = (inS S.pl l && S.Q.all fun q => (imQ S.pl l (eqp q)).toList == q.2.1.toList) := by
    unfold hldS holdS
    rw [decide_eq_true h0, Bool.true_and, StM.pl_Q, List.all_map]; rfl
  have hims : imS S.pl l = S.Q.map (fun q => imQ S.pl l (eqp q)) := by unfold imS; rw [StM.pl_Q, List.map_map]; rfl
  rw [hi]
  rw [hims] at HIM
  rw [h0] at HRD ⊢
  obtain ⟨IM, hIM⟩ : ∃ f, (fun q => imQ S.pl l (eqp q)) = f := ⟨_, rfl⟩
  have him : ∀ q, imQ S.pl l (eqp q) = IM q := fun q => by rw [← hIM]
  rw [hIM] at HIM
  simp only [him]
  have e1 : inS S.pl l = (S.V.zip l).all fun p => inV (ordL S.G) p.1 p.2 := rfl
  rw [e1]
  have HL := Lib.hid hl0
  have HV := Lib.hid hS0.v
  have HNN := Lib.hid hn
  have l3 : S.Q.length ≤ maxLen := hok.ql
  have HQ := Lib.hid hS0.q
  clear e1 hIM him hims hi r1 r2 r3 r4 h0 hz h64 hS hS0 hl hl0 hn hok hX
  unfold maxLen at l3 hn1
  obtain ⟨ga, gc, va, vc, qa, qc⟩ := a
  obtain ⟨G, V, Q⟩ := S
  simp only at hb hX0 hX1 hX2 HRD HIM HQ l3 HO HVV HOI HLN HL HV ⊢
  obtain ⟨mq, hnq⟩ : ∃ n, Q.length = n := ⟨_, rfl⟩
  obtain ⟨nw, hnw⟩ : ∃ n, V.length = n := ⟨_, rfl⟩
  simp only [hnq, hnw] at hb hX0 hX1 hX2 HRD HIM HQ l3 HO HLN HL HV ⊢
  have HNQ := Lib.hid hnq
  have HNV := Lib.hid hnw
  have hnn : n = nw := by rw [← HNN.out]; exact HLN.out
  subst hnn
  obtain ⟨o, ho⟩ : ∃ o, ordL G = o := ⟨_, rfl⟩
  rw [ho] at HOI HO ⊢
  obtain ⟨R, hR⟩ : ∃ R, (Q.all fun q => (IM q).toList == q.2.1.toList) = R := ⟨_, rfl⟩
  rw [hR]
  obtain ⟨Z, hZ⟩ : ∃ Z, (((V.zip l).all fun p => inV o p.1 p.2) && R) = Z := ⟨_, rfl⟩
  rw [hZ]
  have H0 : Hid (((Q.drop 0).all fun q => (IM q).toList == q.2.1.toList) = R) := hR
  have H1 : Hid (((((V.zip l).drop 0).all fun p => inV o p.1 p.2) && R) = Z) := hZ
  clear hR hnq hnw ho hZ
  go_enter Tryz.func16, Tryz.ntmps16
  go_wp2_with fail
  generalize hw0 : World.alloc _ _ = w0 at hb hX0 hX1 hX2 HRD HIM HQ HO HL HV ⊢
  clear hw0
  go_wp2_with fail
  refine HRD.out.mono ?_; rintro e w1 ⟨rfl, b1⟩
  clear HRD
  go_wp2_with fail
  go_loopw [7] (fun v7 wr => ∃ k : Nat, k ≤ n ∧ v7 = .int .i64 (k : Int) ∧ Hid (((((V.zip l).drop k).all fun p => inV o p.1 p.2) && R) = Z) ∧ Below w0.heap.size w0 wr) (fun v7 _ => n - (intOf v7).toNat)
  case atStart => exact ⟨0, by omega, rfl, H1, b1⟩
  case round =>
    clear H1 b1
    obtain ⟨k, hk, rfl, hP, hB⟩ := hrel
    have hbw := hb.trans (hB.mono hb.size)
    have d0 := cells_keepL hB (Nat.le_refl _) _ _ hX0
    have d1 := cells_keepL hB (Nat.le_refl _) _ _ hX1
    have d2 := cells_keepL hB (Nat.le_refl _) _ _ hX2
    by_cases hlt : k < n
    · have hkV : k < V.length := by rw [HNV.out]; exact hlt
      have hkl : k < l.length := by rw [HNN.out]; exact hlt
      have hxV := HVV.out _ (List.getElem_mem hkV)
      have hxl := HLI.out _ (List.getElem_mem hkl)
      obtain ⟨b, off, rfl, e0⟩ := (HV.out.keepL (cells_keepL hB (Nat.le_refl _))) k hkV
      obtain ⟨b2, off2, rfl, f0, f1⟩ := (HL.out.keepL (cells_keepL hB (Nat.le_refl _))) k hkl
      have hw := hP.out
      rw [zip_at hkV hkl, List.all_cons] at hw
      generalize V[k] = x at e0 hw hxV
      generalize l[k] = y at f0 f1 hw hxl
      have HIN := Lib.hid (fun w => rinr_any x o y w hxV HOI.out hxl)
      obtain ⟨D, hD⟩ : ∃ D, inV o x y = D := ⟨_, rfl⟩
      rw [hD] at HIN
      have hw2 : (D && (((V.zip l).drop (k + 1)).all fun p => inV o p.1 p.2) && R) = Z := by rw [← hD]; exact hw
      obtain ⟨ng, E⟩ := y
      simp only at f0 f1 HIN
      clear hw hD hP hkV hkl hxV hxl
      go_wp2_with fail
      have HMK := Lib.hid (fun w' (hw : Below wr.heap.size wr w') => keep6L (w2 := w') ⟨d0, d1, d2, e0, f0, f1⟩ (Nat.le_refl _) hw)
      have HOO := Lib.hid (HO.out _ hB.drew)
      go_region_held3 (fun w' => w'.cell? ⟨w.heap.size, 0, none⟩ = some (.slice ga G.length gc) ∧ w'.cell? ⟨w.heap.size, 1, none⟩ = some (.slice (some ⟨b, off, none⟩) n vc) ∧ w'.cell? ⟨w.heap.size, 2, none⟩ = some (.slice qa mq qc) ∧ w'.cell? ⟨b, off + k, none⟩ = some (.string x) ∧ w'.cell? ⟨b2, off2 + k * 2, none⟩ = some (.bool ng) ∧ w'.cell? ⟨b2, off2 + k * 2 + 1, none⟩ = some (.string E) ∧ Below wr.heap.size wr w')
        (first | exact HMK.out _ (Below.refl _ _).drew | exact HMK.out _ hbn | exact HMK.out _ hbm | assumption)
        (first
          | (go_at_call 41; (with_reducible refine (HOO.out).mono ?_); rintro e wn ⟨rfl, bn⟩; have hbn : Below wr.heap.size wr wn := (Below.refl _ wr).drew.trans (bn.mono (Nat.le_refl _)))
          | (go_at_call 40; (with_reducible refine (HIN.out _).mono ?_); rintro e wm ⟨rfl, bm⟩; have hbm : Below wr.heap.size wr wm := hbn.trans (bm.mono hbn.size)))
      all_goals
        have hbj := hbw.trans (hbm.mono hbw.size)
        have hB6 := hB.trans (hbm.mono hB.size)
        cases D
        · obtain rfl : Z = false := by rw [← hw2]; rfl
          clear hw2
          go_wp2_with fail
          go_ret2
          exact ⟨rfl, hbj⟩
        · have HW : Hid (((((V.zip l).drop (k + 1)).all fun p => inV o p.1 p.2) && R) = Z) := hw2
          clear hw2
          go_wp2_with fail
          exact ⟨⟨k + 1, by omega, by go_num, HW, hB6⟩, by simp [intOf]; omega⟩
    · obtain rfl : n = k := by omega
      have hw := hP.out
      rw [List.drop_of_length_le (by rw [List.length_zip, HNV.out, HNN.out]; omega)] at hw
      obtain rfl : R = Z := hw
      clear hP
      go_wp2_with fail
      refine (HIM.out _ hB).mono ?_; rintro e w3 ⟨ao, c', rfl, hN, b3⟩
      have hb3 := hbw.trans (b3.mono hbw.size)
      have b13 := hB.trans (b3.mono hB.size)
      have y2 := cells_keepL b3 (Nat.le_refl _) _ _ d2
      have HQ3 := Lib.hid (HQ.out.keep (cells_keepL b13 (Nat.le_refl _)))
      have HN := Lib.hid hN
      clear d0 d1 d2 hbw b3 b13 HQ hN HIM hb hB hX0 hX1 hX2
      go_wp2_with fail
      go_loopw [10] (fun v10 wr => ∃ k : Nat, k ≤ mq ∧ v10 = .int .i64 (k : Int) ∧ Hid (((Q.drop k).all fun q => (IM q).toList == q.2.1.toList) = R) ∧ Below w3.heap.size w3 wr) (fun v10 _ => mq - (intOf v10).toNat)
      case atStart => exact ⟨0, by omega, rfl, H0, Below.refl _ _⟩
      case round =>
        clear H0
        obtain ⟨k, hk, rfl, hP, hB⟩ := hrel
        have hbw := hb3.trans (hB.mono hb3.size)
        have d2 := cells_keepL hB (Nat.le_refl _) _ _ y2
        by_cases hlt : k < mq
        · have hkQ : k < Q.length := by rw [HNQ.out]; exact hlt
          obtain ⟨b, off, rfl, e0, e1, e2, hTT⟩ := (HQ3.out.keep (cells_keepL hB (Nat.le_refl _))) k hkQ
          obtain ⟨b2, off2, rfl, f0⟩ := (HN.out.keepL (cells_keepL hB (Nat.le_refl _))) k (by rw [List.length_map]; exact hkQ)
          have hw := hP.out
          rw [List.drop_eq_getElem_cons hkQ, List.all_cons] at hw
          rw [List.getElem_map] at f0
          clear hTT
          generalize IM Q[k] = X at f0 hw
          generalize Q[k] = x at e0 e1 e2 hw
          obtain ⟨i, T, ta, tc, L⟩ := x
          simp only at e0 e1 e2 hw
          clear hP hkQ
          by_cases hXT : X = T
          · subst hXT
            have HW : Hid (((Q.drop (k + 1)).all fun q => (IM q).toList == q.2.1.toList) = R) := by rw [beq_self_eq_true, Bool.true_and] at hw; exact hw
            clear hw
            go_wp2_with fail
            go_quiet (fail)
            have hB3 : Below w3.heap.size w3 (wr.drewN nq) := hB.trans ((Below.drewNL _ _ _).mono hB.size)
            generalize World.drewN _ _ = w5 at hB3 ⊢
            go_wp2_with fail
            exact ⟨⟨k + 1, by omega, by go_num, HW, hB3⟩, by simp [intOf]; omega⟩
          · have q2 : ¬ X.toList = T.toList := fun h => hXT (tl_eq h)
            have q1 : (X.toList == T.toList) = false := by rw [beq_eq_false_iff_ne]; exact q2
            obtain rfl : R = false := by rw [q1] at hw; exact hw.symm
            clear hw
            go_wp2_with fail
            go_quiet (fail)
            have hbq : Below w.heap.size w (wr.drewN nq) := hbw.trans ((Below.drewNL _ _ _).mono hbw.size)
            generalize World.drewN _ _ = w5 at hbq ⊢
            go_wp2_with fail
            go_ret2
            exact ⟨rfl, hbq⟩
        · obtain rfl : mq = k := by omega
          have hw := hP.out
          rw [List.drop_of_length_le (by rw [HNQ.out]; omega)] at hw
          obtain rfl : true = R := hw
          clear hP
          go_wp2_with fail
          go_ret2
          exact ⟨rfl, hbw⟩
end Go.Proofs.YtcbamkgomnhdbaaGreatDoor

/- FewInts, SameNats; the walks of LinearHolds and LinearImages. -/
namespace Go.Proofs.YtcbamkgomnhdbaaGreatDoor
open Go.RowKit Num
set_option maxRecDepth 20000
set_option linter.unusedVariables false
/-- what FewInts shows -/
def FIP (l : List (Bool × ByteArray)) : Prop := l.length ≤ 20 ∧ ∀ k (h : k < l.length), l[k].2.size ≤ 24
theorem few_sms {S : StM} {l : List (Bool × ByteArray)} (h : FewP S) (hl : FIP l) : SmS S l :=
  ⟨fun q hq t ht => by
    obtain ⟨i, hi, rfl⟩ := List.mem_iff_getElem.1 hq
    obtain ⟨j, hj, rfl⟩ := List.mem_iff_getElem.1 ht
    exact ((h.q i hi).2.2 j hj).2, fun x hx => by
    obtain ⟨i, hi, rfl⟩ := List.mem_iff_getElem.1 hx
    have := hl.2 i hi
    omega⟩
theorem few_64 {S : StM} (h : FewP S) : ∀ g ∈ S.G, g.1.size ≤ 64 := fun g hg => by
  obtain ⟨i, hi, rfl⟩ := List.mem_iff_getElem.1 hg
  have := (h.g i hi).1
  omega
set_option maxHeartbeats 4000000 in
theorem fewInts_any (bo : Option Addr) (n c : Nat) (l : List (Bool × ByteArray)) (w : World) (hl : IS w bo l) (hn : l.length = n) (hn1 : n ≤ maxLen) (hz : ∀ x ∈ l, x.2.size ≤ maxLen) :
    Calls Tryz.prog 14 #[.slice bo n c] w (FWP (FIP l) w) := by
  have HL := Lib.hid hl
  have HN := Lib.hid hn
  have HZ := Lib.hid hz
  have HFI : Hid (l.length ≤ 20 → (∀ k (h : k < l.length), l[k].2.size ≤ 24) → FIP l) := fun h1 h2 => ⟨h1, h2⟩
  obtain ⟨FP, hFP⟩ : ∃ p, FIP l = p := ⟨_, rfl⟩
  rw [hFP] at HFI ⊢
  unfold maxLen at hn1 HZ
  clear hl hn hz hFP
  go_enter Tryz.func14, Tryz.ntmps14
  go_wp2_with fail
  go_loopw [3] (fun v3 wr => ∃ k : Nat, k ≤ n ∧ k ≤ 20 ∧ v3 = .int .i64 (k : Int) ∧ Hid (∀ i (h : i < l.length), i < k → l[i].2.size ≤ 24) ∧ wr = w) (fun v3 _ => n - (intOf v3).toNat)
  case atStart => exact ⟨0, by omega, by omega, rfl, fun i _ h => by omega, rfl⟩
  case round =>
    obtain ⟨k, hk, hk2, rfl, hP, rfl⟩ := hrel
    by_cases hlt : k < n
    · by_cases h20 : k < 20
      · have hkl : k < l.length := by rw [HN.out]; exact hlt
        obtain ⟨b, off, rfl, c0, c1⟩ := HL.out k hkl
        have s1 := HZ.out _ (List.getElem_mem hkl)
        obtain ⟨x, hx⟩ : ∃ x, l[k] = x := ⟨_, rfl⟩
        rw [hx] at c0 c1 s1
        obtain ⟨g, E⟩ := x
        simp only at c0 c1 s1
        have HX := Lib.hid hx
        clear hx
        by_cases t1 : 24 < E.size
        · have e1 : decide ((24 : Int) < (E.size : Int)) = true := decide_eq_true (by omega)
          have e1' : (24 : Int) < (E.size : Int) := by omega
          go_wp2_with fail
          go_ret
          exact FWP.no (Below.refl _ _)
        have e1 : decide ((24 : Int) < (E.size : Int)) = false := decide_eq_false (by omega)
        have e1' : ¬ (24 : Int) < (E.size : Int) := by omega
        have HNx : Hid (∀ i (h : i < l.length), i < k + 1 → l[i].2.size ≤ 24) := fun i h h' => by
          by_cases e : i = k
          · subst e; rw [HX.out]; show E.size ≤ 24; omega
          · exact hP.out i h (by omega)
        clear hP hkl HX
        go_wp2_with fail
        exact ⟨⟨k + 1, by omega, by omega, by go_num, HNx, by trivial⟩, by simp [intOf]; omega⟩
      · obtain rfl : k = 20 := by omega
        have e1 : decide ((n : Int) ≤ 20) = false := decide_eq_false (by omega)
        have e1' : ¬ (n : Int) ≤ 20 := by omega
        clear hP
        go_wp2_with fail
        go_ret
        exact FWP.no (Below.refl _ _)
    · obtain rfl : n = k := by omega
      have HF : Hid FP := HFI.out (by have := HN.out; omega) (fun i h => hP.out i h (by rw [HN.out] at h; exact h))
      have e1 : decide ((n : Int) ≤ 20) = true := decide_eq_true (by omega)
      have e1' : (n : Int) ≤ 20 := by omega
      clear hP
      go_wp2_with fail
      go_ret
      exact FWP.yes HF.out (Below.refl _ _)
set_option maxHeartbeats 4000000 in
theorem sameNats_any (ao bo : Option Addr) (n c c' : Nat) (L : List ByteArray) (w : World) (ha : NS w ao L) (hb : NS w bo L) (hn : L.length = n) (hn1 : n ≤ maxLen) :
    Calls Tryz.prog 19 #[.slice ao n c, .slice bo n c'] w fun e w' => e = .returned (.bool true) ∧ Below w.heap.size w w' := by
  have HA := Lib.hid ha
  have HB := Lib.hid hb
  have HN := Lib.hid hn
  unfold maxLen at hn1
  have q1 : ((n : Int) != (n : Int)) = false := by simp
  clear ha hb hn
  go_enter Tryz.func19, Tryz.ntmps19
  go_wp2_with fail
  go_loopw [5] (fun v5 wr => ∃ k : Nat, k ≤ n ∧ v5 = .int .i64 (k : Int) ∧ Below w.heap.size w wr) (fun v5 _ => n - (intOf v5).toNat)
  case atStart => exact ⟨0, by omega, rfl, Below.refl _ _⟩
  case round =>
    obtain ⟨k, hk, rfl, hB⟩ := hrel
    by_cases hlt : k < n
    · have hkl : k < L.length := by rw [HN.out]; exact hlt
      obtain ⟨b, off, rfl, c0⟩ := (HA.out.keepL (cells_keepL hB (Nat.le_refl _))) k hkl
      obtain ⟨b2, off2, rfl, d0⟩ := (HB.out.keepL (cells_keepL hB (Nat.le_refl _))) k hkl
      generalize L[k] = x at c0 d0
      clear hkl
      go_wp2_with fail
      go_quiet (fail)
      have hB3 : Below w.heap.size w (wr.drewN nq) := hB.trans ((Below.drewNL _ _ _).mono hB.size)
      generalize World.drewN _ _ = w5 at hB3 ⊢
      go_wp2_with fail
      exact ⟨⟨k + 1, by omega, by go_num, hB3⟩, by simp [intOf]; omega⟩
    · obtain rfl : n = k := by omega
      go_wp2_with fail
      go_ret
      exact ⟨rfl, hB⟩
set_option maxHeartbeats 4000000 in
theorem lholds_walk (a : StA) (S : StM) (bo : Option Addr) (n c : Nat) (l : List (Bool × ByteArray)) (w : World) (hok : S.ok) (hS : SS w a S) (hl : IS w bo l) (hn : l.length = n) (hn1 : n ≤ maxLen) (hzz : ∀ x ∈ l, x.2.size ≤ maxLen) :
    Calls Tryz.prog 4 #[.agg #[.slice a.ga S.G.length a.gc, .slice a.va S.V.length a.vc, .slice a.qa S.Q.length a.qc], .slice bo n c] w fun e w' => e = .returned (.bool true) ∧ Below w.heap.size w w' := by
  have hb := (Below.refl _ w).alloc (Nat.le_refl _) (.cells #[.slice a.ga S.G.length a.gc, .slice a.va S.V.length a.vc, .slice a.qa S.Q.length a.qc] 26)
  have hX := SXB.new w a S
  have hS0 := hS.below hb (Nat.le_refl _)
  have hl0 := hl.below hb (Nat.le_refl _)
  have H1 := Lib.hid (few_any a S (w.alloc (.cells #[.slice a.ga S.G.length a.gc, .slice a.va S.V.length a.vc, .slice a.qa S.Q.length a.qc] 26)) hS0 hok)
  have H2 := Lib.hid (fun w' (hb' : Below (w.alloc (.cells #[.slice a.ga S.G.length a.gc, .slice a.va S.V.length a.vc, .slice a.qa S.Q.length a.qc] 26)).heap.size (w.alloc (.cells #[.slice a.ga S.G.length a.gc, .slice a.va S.V.length a.vc, .slice a.qa S.Q.length a.qc] 26)) w') => fewInts_any bo n c l w' (hl0.below hb' (Nat.le_refl _)) hn hn1 hzz)
  have H3 := Lib.hid (fun w' (hb' : Below (w.alloc (.cells #[.slice a.ga S.G.length a.gc, .slice a.va S.V.length a.vc, .slice a.qa S.Q.length a.qc] 26)).heap.size (w.alloc (.cells #[.slice a.ga S.G.length a.gc, .slice a.va S.V.length a.vc, .slice a.qa S.Q.length a.qc] 26)) w') (hf : FewP S) (hg : FIP l) => holds_any a S bo n c l w' (hS0.below hb' (Nat.le_refl _)) hok (hl0.below hb' (Nat.le_refl _)) hn hn1 (few_sms hf hg))
  have H4 := Lib.hid (fun w' (hb' : Below (w.alloc (.cells #[.slice a.ga S.G.length a.gc, .slice a.va S.V.length a.vc, .slice a.qa S.Q.length a.qc] 26)).heap.size (w.alloc (.cells #[.slice a.ga S.G.length a.gc, .slice a.va S.V.length a.vc, .slice a.qa S.Q.length a.qc] 26)) w') (hf : FewP S) (hg : FIP l) => rholds_any a S bo n c l w' (hS0.below hb' (Nat.le_refl _)) hok (hl0.below hb' (Nat.le_refl _)) hn hn1 (few_sms hf hg) (few_64 hf))
  unfold FWP at H1 H2
  have hX0 := hX.c0
  have hX1 := hX.c1
  have hX2 := hX.c2
  obtain ⟨Z, hZ⟩ : ∃ Z, rdE S.pl l = Z := ⟨_, rfl⟩
  obtain ⟨D, hD⟩ : ∃ Z, hldS S.pl l = Z := ⟨_, rfl⟩
  rw [hZ, hD] at H3 H4
  clear hS hS0 hok hX hZ hD hl hl0 hn hzz
  go_enter Tryz.func4, Tryz.ntmps4
  go_wp2_with fail
  generalize hw0 : World.alloc _ _ = w0 at hb hX0 hX1 hX2 H1 H2 H3 H4 ⊢
  clear hw0
  go_wp2_with fail
  refine H1.out.mono ?_; rintro e w1 ⟨V, rfl, hV, b1⟩
  have hb1 := hb.trans (b1.mono hb.size)
  have x0 := cells_keepL b1 (Nat.le_refl _) _ _ hX0
  have x1 := cells_keepL b1 (Nat.le_refl _) _ _ hX1
  have x2 := cells_keepL b1 (Nat.le_refl _) _ _ hX2
  clear hX0 hX1 hX2 H1
  cases V
  · clear hV
    go_wp2_with fail
    refine (awakeL _).mono ?_; rintro e w2 ⟨rfl, b2⟩
    have hb2 := hb1.trans (b2.mono hb1.size)
    go_wp2_with fail
    go_ret
    exact ⟨rfl, hb2⟩
  have HF := Lib.hid (hV rfl)
  clear hV
  go_wp2_with fail
  refine (H2.out _ b1).mono ?_; rintro e w2 ⟨V, rfl, hV, b2⟩
  have hb2 := hb1.trans (b2.mono hb1.size)
  have b12 := b1.trans (b2.mono b1.size)
  have y0 := cells_keepL b2 (Nat.le_refl _) _ _ x0
  have y1 := cells_keepL b2 (Nat.le_refl _) _ _ x1
  have y2 := cells_keepL b2 (Nat.le_refl _) _ _ x2
  clear x0 x1 x2 hb1 b1 b2 H2
  cases V
  · clear hV
    go_wp2_with fail
    refine (awakeL _).mono ?_; rintro e w3 ⟨rfl, b3⟩
    have hb3 := hb2.trans (b3.mono hb2.size)
    go_wp2_with fail
    go_ret
    exact ⟨rfl, hb3⟩
  have HFI := Lib.hid (hV rfl)
  clear hV
  go_wp2_with fail
  refine (H3.out _ b12 HF.out HFI.out).mono ?_; rintro e w3 ⟨rfl, b3⟩
  have hb3 := hb2.trans (b3.mono hb2.size)
  have b13 := b12.trans (b3.mono b12.size)
  have x0 := cells_keepL b3 (Nat.le_refl _) _ _ y0
  have x1 := cells_keepL b3 (Nat.le_refl _) _ _ y1
  have x2 := cells_keepL b3 (Nat.le_refl _) _ _ y2
  clear y0 y1 y2 hb2 b12 b3
  go_wp2_with fail
  refine (H4.out _ b13 HF.out HFI.out).mono ?_; rintro e w4 ⟨rfl, b4⟩
  have hb4 := hb3.trans (b4.mono hb3.size)
  go_wp2_with fail
  refine (awakeL _).mono ?_; rintro e w5 ⟨rfl, b5⟩
  have hb5 := hb4.trans (b5.mono hb4.size)
  cases D
  all_goals
    go_wp2_with fail
    go_ret
    exact ⟨rfl, hb5⟩
set_option maxHeartbeats 4000000 in
theorem limages_walk (a : StA) (S : StM) (bo : Option Addr) (n c : Nat) (l : List (Bool × ByteArray)) (w : World) (hok : S.ok) (hS : SS w a S) (hl : IS w bo l) (hn : l.length = n) (hn1 : n ≤ maxLen) (hzz : ∀ x ∈ l, x.2.size ≤ maxLen) :
    Calls Tryz.prog 5 #[.agg #[.slice a.ga S.G.length a.gc, .slice a.va S.V.length a.vc, .slice a.qa S.Q.length a.qc], .slice bo n c] w fun e w' => e = .returned (.bool true) ∧ Below w.heap.size w w' := by
  have hb := (Below.refl _ w).alloc (Nat.le_refl _) (.cells #[.slice a.ga S.G.length a.gc, .slice a.va S.V.length a.vc, .slice a.qa S.Q.length a.qc] 26)
  have hX := SXB.new w a S
  have hS0 := hS.below hb (Nat.le_refl _)
  have hl0 := hl.below hb (Nat.le_refl _)
  have H1 := Lib.hid (few_any a S (w.alloc (.cells #[.slice a.ga S.G.length a.gc, .slice a.va S.V.length a.vc, .slice a.qa S.Q.length a.qc] 26)) hS0 hok)
  have H2 := Lib.hid (fun w' (hb' : Below (w.alloc (.cells #[.slice a.ga S.G.length a.gc, .slice a.va S.V.length a.vc, .slice a.qa S.Q.length a.qc] 26)).heap.size (w.alloc (.cells #[.slice a.ga S.G.length a.gc, .slice a.va S.V.length a.vc, .slice a.qa S.Q.length a.qc] 26)) w') => fewInts_any bo n c l w' (hl0.below hb' (Nat.le_refl _)) hn hn1 hzz)
  have H3 := Lib.hid (fun w' (hb' : Below (w.alloc (.cells #[.slice a.ga S.G.length a.gc, .slice a.va S.V.length a.vc, .slice a.qa S.Q.length a.qc] 26)).heap.size (w.alloc (.cells #[.slice a.ga S.G.length a.gc, .slice a.va S.V.length a.vc, .slice a.qa S.Q.length a.qc] 26)) w') (hf : FewP S) (hg : FIP l) => limages_any a S bo n c l w' (hS0.below hb' (Nat.le_refl _)) hok (hl0.below hb' (Nat.le_refl _)) hn hn1 (few_sms hf hg))
  have H4 := Lib.hid (fun w' (hb' : Below (w.alloc (.cells #[.slice a.ga S.G.length a.gc, .slice a.va S.V.length a.vc, .slice a.qa S.Q.length a.qc] 26)).heap.size (w.alloc (.cells #[.slice a.ga S.G.length a.gc, .slice a.va S.V.length a.vc, .slice a.qa S.Q.length a.qc] 26)) w') (hf : FewP S) (hg : FIP l) => rImages_any a S bo n c l w' (hS0.below hb' (Nat.le_refl _)) hok (hl0.below hb' (Nat.le_refl _)) hn hn1 (few_sms hf hg) (few_64 hf))
  have HIL : Hid (FewP S → (imgS S.pl l).length ≤ maxLen) := fun hf => by
    unfold imgS
    have := hf.ql
    split
    · unfold imS; rw [List.length_map, StM.pl_Q, List.length_map]; unfold maxLen; omega
    · simp
  unfold FWP at H1 H2
  have hX0 := hX.c0
  have hX1 := hX.c1
  have hX2 := hX.c2
  obtain ⟨Z, hZ⟩ : ∃ Z, rdE S.pl l = Z := ⟨_, rfl⟩
  obtain ⟨I, hD⟩ : ∃ Z, imgS S.pl l = Z := ⟨_, rfl⟩
  rw [hZ, hD] at H3 H4
  rw [hD] at HIL
  clear hS hS0 hok hX hZ hD hl hl0 hn hzz
  go_enter Tryz.func5, Tryz.ntmps5
  go_wp2_with fail
  generalize hw0 : World.alloc _ _ = w0 at hb hX0 hX1 hX2 H1 H2 H3 H4 ⊢
  clear hw0
  go_wp2_with fail
  refine H1.out.mono ?_; rintro e w1 ⟨V, rfl, hV, b1⟩
  have hb1 := hb.trans (b1.mono hb.size)
  have x0 := cells_keepL b1 (Nat.le_refl _) _ _ hX0
  have x1 := cells_keepL b1 (Nat.le_refl _) _ _ hX1
  have x2 := cells_keepL b1 (Nat.le_refl _) _ _ hX2
  clear hX0 hX1 hX2 H1
  cases V
  · clear hV
    go_wp2_with fail
    refine (awakeL _).mono ?_; rintro e w2 ⟨rfl, b2⟩
    have hb2 := hb1.trans (b2.mono hb1.size)
    go_wp2_with fail
    go_ret
    exact ⟨rfl, hb2⟩
  have HF := Lib.hid (hV rfl)
  clear hV
  go_wp2_with fail
  refine (H2.out _ b1).mono ?_; rintro e w2 ⟨V, rfl, hV, b2⟩
  have hb2 := hb1.trans (b2.mono hb1.size)
  have b12 := b1.trans (b2.mono b1.size)
  have y0 := cells_keepL b2 (Nat.le_refl _) _ _ x0
  have y1 := cells_keepL b2 (Nat.le_refl _) _ _ x1
  have y2 := cells_keepL b2 (Nat.le_refl _) _ _ x2
  clear x0 x1 x2 hb1 b1 b2 H2
  cases V
  · clear hV
    go_wp2_with fail
    refine (awakeL _).mono ?_; rintro e w3 ⟨rfl, b3⟩
    have hb3 := hb2.trans (b3.mono hb2.size)
    go_wp2_with fail
    go_ret
    exact ⟨rfl, hb3⟩
  have HFI := Lib.hid (hV rfl)
  clear hV
  go_wp2_with fail
  refine (H3.out _ b12 HF.out HFI.out).mono ?_; rintro e w3 ⟨ao, m1, c1, rfl, hm1, hN1, b3⟩
  have hb3 := hb2.trans (b3.mono hb2.size)
  have b13 := b12.trans (b3.mono b12.size)
  have x0 := cells_keepL b3 (Nat.le_refl _) _ _ y0
  have x1 := cells_keepL b3 (Nat.le_refl _) _ _ y1
  have x2 := cells_keepL b3 (Nat.le_refl _) _ _ y2
  have HN1 := Lib.hid hN1
  have HM1 := Lib.hid hm1
  clear y0 y1 y2 hb2 b12 b3 hN1 hm1
  go_wp2_with fail
  refine (H4.out _ b13 HF.out HFI.out).mono ?_; rintro e w4 ⟨ao2, m2, c2, rfl, hm2, hN2, b4⟩
  have hb4 := hb3.trans (b4.mono hb3.size)
  have HN2 := Lib.hid (HN1.out.keepL (cells_keepL b4 (Nat.le_refl _)))
  have HN3 := Lib.hid hN2
  obtain rfl : m1 = m2 := by rw [hm2]; exact HM1.out
  clear hm2 hN2 b4 HN1 x0 x1 x2
  go_wp2_with fail
  refine (awakeL _).mono ?_; rintro e w5 ⟨rfl, b5⟩
  have hb5 := hb4.trans (b5.mono hb4.size)
  have HSN := Lib.hid (sameNats_any ao ao2 m1 c1 c2 I w5 (HN2.out.keepL (cells_keepL b5 (Nat.le_refl _))) (HN3.out.keepL (cells_keepL b5 (Nat.le_refl _))) HM1.out.symm (by have := HIL.out HF.out; rw [HM1.out]; exact this))
  clear b5
  go_wp2_with fail
  refine HSN.out.mono ?_; rintro e w6 ⟨rfl, b6⟩
  have hb6 := hb5.trans (b6.mono hb5.size)
  go_wp2_with fail
  go_ret
  exact ⟨rfl, hb6⟩
end Go.Proofs.YtcbamkgomnhdbaaGreatDoor

/- The walk of LinearAgrees. -/
namespace Go.Proofs.YtcbamkgomnhdbaaGreatDoor
open Go.RowKit Num
set_option maxRecDepth 20000
set_option linter.unusedVariables false
theorem all_take {α : Type} (p : α → Bool) {L : List α} {k : Nat} (h : k < L.length) : (L.take (k + 1)).all p = ((L.take k).all p && p L[k]) := by
  rw [List.take_succ_eq_append_getElem h, List.all_append]; simp
theorem zip_take {V : List ByteArray} {l : List (Bool × ByteArray)} {k : Nat} (o : ByteArray) (h1 : k < V.length) (h2 : k < l.length) : ((V.zip l).take (k + 1)).all (fun p => inV o p.1 p.2) = (((V.zip l).take k).all (fun p => inV o p.1 p.2) && inV o V[k] l[k]) := by
  have h : k < (V.zip l).length := by rw [List.length_zip]; omega
  rw [all_take _ h, List.getElem_zip]
theorem ordL_drop {G : List (ByteArray × ByteArray)} {k : Nat} (h : k < G.length) : ordL (G.drop k) = if emB G[k].2 = true then ordL (G.drop (k + 1)) else G[k].2 := by
  rw [List.drop_eq_getElem_cons h]; rfl
set_option maxHeartbeats 16000000 in
theorem lagrees_walk (a : StA) (S : StM) (bo : Option Addr) (n c : Nat) (l : List (Bool × ByteArray)) (w : World) (hok : S.ok) (hS : SS w a S) (hl : IS w bo l) (hn : l.length = n) (hn1 : n ≤ maxLen) (hzz : ∀ x ∈ l, x.2.size ≤ maxLen) :
    Calls Tryz.prog 6 #[.agg #[.slice a.ga S.G.length a.gc, .slice a.va S.V.length a.vc, .slice a.qa S.Q.length a.qc], .slice bo n c] w fun e w' => e = .returned (.bool true) ∧ Below w.heap.size w w' := by
  have hb := (Below.refl _ w).alloc (Nat.le_refl _) (.cells #[.slice a.ga S.G.length a.gc, .slice a.va S.V.length a.vc, .slice a.qa S.Q.length a.qc] 26)
  have hX := SXB.new w a S
  have hS0 := hS.below hb (Nat.le_refl _)
  have hl0 := hl.below hb (Nat.le_refl _)
  have H1 := Lib.hid (few_any a S (w.alloc (.cells #[.slice a.ga S.G.length a.gc, .slice a.va S.V.length a.vc, .slice a.qa S.Q.length a.qc] 26)) hS0 hok)
  have H2 := Lib.hid (fun w' (hb' : Below (w.alloc (.cells #[.slice a.ga S.G.length a.gc, .slice a.va S.V.length a.vc, .slice a.qa S.Q.length a.qc] 26)).heap.size (w.alloc (.cells #[.slice a.ga S.G.length a.gc, .slice a.va S.V.length a.vc, .slice a.qa S.Q.length a.qc] 26)) w') => fewInts_any bo n c l w' (hl0.below hb' (Nat.le_refl _)) hn hn1 hzz)
  have H3 := Lib.hid (fun w' (hb' : Below (w.alloc (.cells #[.slice a.ga S.G.length a.gc, .slice a.va S.V.length a.vc, .slice a.qa S.Q.length a.qc] 26)).heap.size (w.alloc (.cells #[.slice a.ga S.G.length a.gc, .slice a.va S.V.length a.vc, .slice a.qa S.Q.length a.qc] 26)) w') (hf : FewP S) (hg : FIP l) => limages_any a S bo n c l w' (hS0.below hb' (Nat.le_refl _)) hok (hl0.below hb' (Nat.le_refl _)) hn hn1 (few_sms hf hg))
  have H4 := Lib.hid (fun w' (hb' : Below (w.alloc (.cells #[.slice a.ga S.G.length a.gc, .slice a.va S.V.length a.vc, .slice a.qa S.Q.length a.qc] 26)).heap.size (w.alloc (.cells #[.slice a.ga S.G.length a.gc, .slice a.va S.V.length a.vc, .slice a.qa S.Q.length a.qc] 26)) w') (hf : FewP S) (hg : FIP l) => holds_any a S bo n c l w' (hS0.below hb' (Nat.le_refl _)) hok (hl0.below hb' (Nat.le_refl _)) hn hn1 (few_sms hf hg))
  unfold FWP at H1 H2
  have hX0 := hX.c0
  have hX1 := hX.c1
  have hX2 := hX.c2
  have HZ0 : Hid (rdE S.pl l = 0 → imgS S.pl l = S.Q.map (fun q => imQ S.pl l (eqp q)) ∧ hldS S.pl l = (((S.V.zip l).all fun p => inV (ordL S.G) p.1 p.2) && S.Q.all fun q => (imQ S.pl l (eqp q)).toList == q.2.1.toList) ∧ l.length = S.V.length ∧ (∀ x ∈ S.V, IsN x (Num.nv x)) ∧ (∀ x ∈ l, IsN x.2 (Num.nv x.2)) ∧ IsN (ordL S.G) (Num.nv (ordL S.G))) := fun h0 => by
    obtain ⟨r1, r2, r3, r4⟩ := rd_zero h0
    have hff := r2
    rw [formB_pl, Bool.and_eq_true, Bool.and_eq_true] at hff
    refine ⟨by unfold imgS; rw [if_pos h0]; unfold imS; rw [StM.pl_Q, List.map_map]; rfl, ?_, r4, fun x hx => isN_of_valid (List.all_eq_true.1 hff.2.1 x hx), fun x hx => ?_, ord_valid hff.1⟩
    · unfold hldS holdS
      rw [decide_eq_true h0, Bool.true_and, StM.pl_Q, List.all_map]; rfl
    · have h := List.all_eq_true.1 r3 x hx
      unfold ivB at h
      rw [Bool.and_eq_true] at h
      exact isN_of_valid h.1
  have HZ1 : Hid (rdE S.pl l ≠ 0 → imgS S.pl l = [] ∧ hldS S.pl l = false) := fun h0 => ⟨by unfold imgS; rw [if_neg h0], by unfold hldS; rw [decide_eq_false h0]; rfl⟩
  obtain ⟨Z, hZ⟩ : ∃ Z, rdE S.pl l = Z := ⟨_, rfl⟩
  obtain ⟨I, hI⟩ : ∃ Z, imgS S.pl l = Z := ⟨_, rfl⟩
  obtain ⟨D, hD⟩ : ∃ Z, hldS S.pl l = Z := ⟨_, rfl⟩
  obtain ⟨IM, hIM⟩ : ∃ f, (fun q => imQ S.pl l (eqp q)) = f := ⟨_, rfl⟩
  have him : ∀ q, imQ S.pl l (eqp q) = IM q := fun q => by rw [← hIM]
  simp only [him] at HZ0
  rw [hZ] at H3 H4 HZ0 HZ1
  rw [hI] at H3 HZ0 HZ1
  rw [hD] at H4 HZ0 HZ1
  have HQ := Lib.hid hS0.q
  have HG := Lib.hid hS0.g
  have HV := Lib.hid hS0.v
  have HLL := Lib.hid hl0
  have HNN := Lib.hid hn
  have l1 : S.G.length ≤ maxLen := hok.gl
  have l2 : S.V.length ≤ maxLen := hok.vl
  have l3 : S.Q.length ≤ maxLen := hok.ql
  unfold maxLen at l1 l2 l3 hn1
  clear hS hS0 hok hX hZ hI hD hIM him hl hl0 hn hzz
  go_enter Tryz.func6, Tryz.ntmps6
  go_wp2_with fail
  generalize hw0 : World.alloc _ _ = w0 at hb hX0 hX1 hX2 H1 H2 H3 H4 HQ HG HV HLL ⊢
  clear hw0
  go_wp2_with fail
  refine H1.out.mono ?_; rintro e w1 ⟨V, rfl, hV, b1⟩
  have hb1 := hb.trans (b1.mono hb.size)
  have x0 := cells_keepL b1 (Nat.le_refl _) _ _ hX0
  have x1 := cells_keepL b1 (Nat.le_refl _) _ _ hX1
  have x2 := cells_keepL b1 (Nat.le_refl _) _ _ hX2
  clear hX0 hX1 hX2 H1
  cases V
  · clear hV
    go_wp2_with fail
    refine (awakeL _).mono ?_; rintro e w2 ⟨rfl, b2⟩
    have hb2 := hb1.trans (b2.mono hb1.size)
    go_wp2_with fail
    go_ret
    exact ⟨rfl, hb2⟩
  have HF := Lib.hid (hV rfl)
  clear hV
  go_wp2_with fail
  refine (H2.out _ b1).mono ?_; rintro e w2 ⟨V, rfl, hV, b2⟩
  have hb2 := hb1.trans (b2.mono hb1.size)
  have b12 := b1.trans (b2.mono b1.size)
  have y0 := cells_keepL b2 (Nat.le_refl _) _ _ x0
  have y1 := cells_keepL b2 (Nat.le_refl _) _ _ x1
  have y2 := cells_keepL b2 (Nat.le_refl _) _ _ x2
  clear x0 x1 x2 hb1 b1 b2 H2
  cases V
  · clear hV
    go_wp2_with fail
    refine (awakeL _).mono ?_; rintro e w3 ⟨rfl, b3⟩
    have hb3 := hb2.trans (b3.mono hb2.size)
    go_wp2_with fail
    go_ret
    exact ⟨rfl, hb3⟩
  have HFI := Lib.hid (hV rfl)
  clear hV
  go_wp2_with fail
  refine (H3.out _ b12 HF.out HFI.out).mono ?_; rintro e w3 ⟨ao, m1, c1, rfl, hm1, hN1, b3⟩
  have hb3 := hb2.trans (b3.mono hb2.size)
  have b13 := b12.trans (b3.mono b12.size)
  have x0 := cells_keepL b3 (Nat.le_refl _) _ _ y0
  have x1 := cells_keepL b3 (Nat.le_refl _) _ _ y1
  have x2 := cells_keepL b3 (Nat.le_refl _) _ _ y2
  have HN1 := Lib.hid hN1
  have HM1 := Lib.hid hm1
  clear y0 y1 y2 hb2 b12 b3 hN1 hm1 H3
  go_wp2_with fail
  refine (H4.out _ b13 HF.out HFI.out).mono ?_; rintro e w4 ⟨rfl, b4⟩
  have hb4 := hb3.trans (b4.mono hb3.size)
  have b14 := b13.trans (b4.mono b13.size)
  have y0 := cells_keepL b4 (Nat.le_refl _) _ _ x0
  have y1 := cells_keepL b4 (Nat.le_refl _) _ _ x1
  have y2 := cells_keepL b4 (Nat.le_refl _) _ _ x2
  have HN2 := Lib.hid (HN1.out.keepL (cells_keepL b4 (Nat.le_refl _)))
  clear x0 x1 x2 HN1 b13 b4 H4 hb3
  by_cases hZ0 : Z = 0
  rotate_left
  · obtain ⟨hi, hd⟩ := HZ1.out hZ0
    subst hi hd
    have q1 : (Z != 0) = true := by rw [bne_iff_ne]; exact hZ0
    have q2 : (Z == 0) = false := by rw [beq_eq_false_iff_ne]; exact hZ0
    have q3 : (Z == Z) = true := by simp
    clear HZ0 HZ1
    go_wp2_with fail
    refine (awakeL _).mono ?_; rintro e w5 ⟨rfl, b5⟩
    have hb5 := hb4.trans (b5.mono hb4.size)
    go_wp2_with fail
    go_ret
    exact ⟨rfl, hb5⟩
  subst hZ0
  obtain ⟨hi, hd, hlv, hvv, hll, hoo⟩ := HZ0.out rfl
  clear HZ0 HZ1
  subst hi
  have HQ4 := Lib.hid (HQ.out.keep (cells_keepL b14 (Nat.le_refl _)))
  have HG4 := Lib.hid (HG.out.keep (cells_keepL b14 (Nat.le_refl _)))
  have HV4 := Lib.hid (HV.out.keepL (cells_keepL b14 (Nat.le_refl _)))
  have HL4 := Lib.hid (HLL.out.keepL (cells_keepL b14 (Nat.le_refl _)))
  have HVV := Lib.hid hvv
  have HLI := Lib.hid hll
  have HOI := Lib.hid hoo
  have HD := Lib.hid hd
  have HLV := Lib.hid hlv
  rw [List.length_map] at HM1
  clear HQ HG HV HLL hvv hll hoo hd hlv b14
  obtain ⟨ga, gc, va, vc, qa, qc⟩ := a
  obtain ⟨G, V, Q⟩ := S
  simp only at y0 y1 y2 l1 l2 l3 HQ4 HG4 HV4 HN2 HM1 HVV HOI HD HLV
  obtain ⟨ng, hng⟩ : ∃ n, G.length = n := ⟨_, rfl⟩
  obtain ⟨nw, hnw⟩ : ∃ n, V.length = n := ⟨_, rfl⟩
  obtain ⟨mq, hmq⟩ : ∃ n, Q.length = n := ⟨_, rfl⟩
  simp only [hng, hnw, hmq] at y0 y1 y2 l1 l2 l3 HM1 HLV ⊢
  have HNG := Lib.hid hng
  have HNV := Lib.hid hnw
  have HNQ := Lib.hid hmq
  obtain rfl : m1 = mq := HM1.out
  obtain rfl : n = nw := by rw [← HNN.out]; exact HLV.out
  obtain ⟨B1, hB1⟩ : ∃ B, (Q.all fun q => (IM q).toList == q.2.1.toList) = B := ⟨_, rfl⟩
  have HD2 := HD.out
  rw [hB1] at HD2
  have HB1 : Hid ((Q.all fun q => (IM q).toList == q.2.1.toList) = B1) := hB1
  have HDD := Lib.hid HD2
  clear hng hnw hmq HM1 HD HD2 hB1 HLV
  go_wp2_with fail
  go_loopw [9, 10] (fun v9 v10 wr => ∃ k : Nat, k ≤ m1 ∧ v10 = .int .i64 (k : Int) ∧ v9 = .bool ((Q.take k).all fun q => (IM q).toList == q.2.1.toList) ∧ Below w4.heap.size w4 wr) (fun _ v10 _ => m1 - (intOf v10).toNat)
  case atStart => exact ⟨0, by omega, rfl, by simp, Below.refl _ _⟩
  case round =>
    obtain ⟨k, hk, rfl, rfl, hB⟩ := hrel
    have d0 := cells_keepL hB (Nat.le_refl _) _ _ y0
    have d1 := cells_keepL hB (Nat.le_refl _) _ _ y1
    have d2 := cells_keepL hB (Nat.le_refl _) _ _ y2
    by_cases hlt : k < m1
    · have hkQ : k < Q.length := by rw [HNQ.out]; exact hlt
      obtain ⟨b, off, rfl, e0, e1, e2, hTT⟩ := (HQ4.out.keep (cells_keepL hB (Nat.le_refl _))) k hkQ
      obtain ⟨b2, off2, rfl, f0⟩ := (HN2.out.keepL (cells_keepL hB (Nat.le_refl _))) k (by rw [List.length_map]; exact hkQ)
      have hst := all_take (fun q => (IM q).toList == q.2.1.toList) hkQ
      rw [List.getElem_map] at f0
      clear hTT
      generalize IM Q[k] = X at f0 hst
      generalize Q[k] = x at e0 e1 e2 hst
      obtain ⟨i, T, ta, tc, L⟩ := x
      simp only at e0 e1 e2
      generalize (Q.take k).all (fun q => (IM q).toList == q.2.1.toList) = A at hst ⊢
      have HST : Hid ((Q.take (k + 1)).all (fun q => (IM q).toList == q.2.1.toList) = (A && X.toList == T.toList)) := hst
      clear hkQ hst
      cases A
      · go_wp2_with fail
        go_quiet (fail)
        have hB3 : Below w4.heap.size w4 (wr.drewN nq) := hB.trans ((Below.drewNL _ _ _).mono hB.size)
        generalize World.drewN _ _ = w5 at hB3 ⊢
        go_wp2_with fail
        exact ⟨⟨k + 1, by omega, by go_num, by rw [HST.out]; rfl, hB3⟩, by simp [intOf]; omega⟩
      · by_cases hXT : X = T
        · subst hXT
          go_wp2_with fail
          go_quiet (fail)
          have hB3 : Below w4.heap.size w4 (wr.drewN nq) := hB.trans ((Below.drewNL _ _ _).mono hB.size)
          generalize World.drewN _ _ = w5 at hB3 ⊢
          go_wp2_with fail
          exact ⟨⟨k + 1, by omega, by go_num, by rw [HST.out, beq_self_eq_true]; rfl, hB3⟩, by simp [intOf]; omega⟩
        · have q2 : ¬ X.toList = T.toList := fun h => hXT (tl_eq h)
          have q1 : (X.toList == T.toList) = false := by rw [beq_eq_false_iff_ne]; exact q2
          have Q1 := Lib.hid q1
          go_wp2_with fail
          go_quiet (fail)
          have hB3 : Below w4.heap.size w4 (wr.drewN nq) := hB.trans ((Below.drewNL _ _ _).mono hB.size)
          generalize World.drewN _ _ = w5 at hB3 ⊢
          go_wp2_with fail
          exact ⟨⟨k + 1, by omega, by go_num, by rw [HST.out, Q1.out]; rfl, hB3⟩, by simp [intOf]; omega⟩
    · obtain rfl : m1 = k := by omega
      rw [List.take_of_length_le (by rw [HNQ.out]; omega), HB1.out]
      have hbw := hb4.trans (hB.mono hb4.size)
      have HG5 := Lib.hid (HG4.out.keep (cells_keepL hB (Nat.le_refl _)))
      have HV5 := Lib.hid (HV4.out.keepL (cells_keepL hB (Nat.le_refl _)))
      have HL5 := Lib.hid (HL4.out.keepL (cells_keepL hB (Nat.le_refl _)))
      clear HG4 HV4 HL4 HN2 HQ4 HB1 y0 y1 y2 hB hb4
      have hwr1 : IntKind.i64.wrap ((ng : Int) - 1) = (ng : Int) - 1 := by rw [IntKind.wrap_i64]; omega
      go_wp2_with fail
      obtain ⟨wo1, rfl⟩ : ∃ wo : World, wo = wr := ⟨_, rfl⟩
      go_loopw [11, 12] (fun v11 v12 wr => ∃ k : Nat, k ≤ ng ∧ v12 = .int .i64 ((k : Int) - 1) ∧ v11 = .string (ordL (G.drop k)) ∧ wr = wo1) (fun _ v12 _ => (intOf v12 + 1).toNat)
      case atStart => exact ⟨ng, by omega, rfl, by rw [List.drop_of_length_le (by rw [HNG.out]; omega)]; rfl, rfl⟩
      case round =>
        obtain ⟨k, hk, rfl, rfl, rfl⟩ := hrel
        cases k with
        | succ k =>
          have hkG : k < G.length := by rw [HNG.out]; omega
          obtain ⟨b, off, rfl, e0, e1⟩ := HG5.out k hkG
          have hst := ordL_drop hkG
          have hkk : ((k + 1 : Nat) : Int) - 1 = (k : Int) := by omega
          rw [hkk]
          generalize ordL (G.drop (k + 1)) = P at hst ⊢
          generalize G[k] = x at e0 e1 hst
          obtain ⟨M, O⟩ := x
          simp only at e0 e1 hst
          have HST := Lib.hid hst
          have hwr2 : IntKind.i64.wrap ((k : Int) - 1) = (k : Int) - 1 := by rw [IntKind.wrap_i64]; omega
          have hlk : (k : Int) < (ng : Int) := by omega
          clear hkG hst hkk
          rcases em_cases O with ⟨h1, rfl⟩ | ⟨h1, h2, h3⟩
          · have H1' := Lib.hid h1
            clear h1
            go_wp2_with fail
            exact ⟨⟨k, by omega, rfl, by rw [HST.out, if_pos H1'.out], by trivial⟩, by simp [intOf]⟩
          · have H1' := Lib.hid h1
            clear h1
            go_wp2_with fail
            exact ⟨⟨k, by omega, rfl, by rw [HST.out, if_neg (by rw [H1'.out]; decide)], by trivial⟩, by simp [intOf]⟩
        | zero =>
          rw [List.drop_zero]
          obtain ⟨o, ho⟩ : ∃ o, ordL G = o := ⟨_, rfl⟩
          rw [ho] at HOI HDD ⊢
          clear ho hwr1
          have hzz : (((0 : Nat) : Int) - 1) = -1 := by omega
          rw [hzz]
          clear hzz
          go_wp2_with fail
          obtain ⟨wo2, rfl⟩ : ∃ wo : World, wo = wr := ⟨_, rfl⟩
          go_loopw [9, 13] (fun v9 v13 wr => ∃ k : Nat, k ≤ n ∧ v13 = .int .i64 (k : Int) ∧ v9 = .bool (B1 && ((V.zip l).take k).all fun p => inV o p.1 p.2) ∧ Below wo2.heap.size wo2 wr) (fun _ v13 _ => n - (intOf v13).toNat)
          case atStart => exact ⟨0, by omega, rfl, by simp, Below.refl _ _⟩
          case round =>
            obtain ⟨k, hk, rfl, rfl, hB⟩ := hrel
            have x0 := cells_keepL hB (Nat.le_refl _) _ _ d0
            have x1 := cells_keepL hB (Nat.le_refl _) _ _ d1
            have x2 := cells_keepL hB (Nat.le_refl _) _ _ d2
            by_cases hlt : k < n
            · have hkV : k < V.length := by rw [HNV.out]; exact hlt
              have hkl : k < l.length := by rw [HNN.out]; exact hlt
              have hxV := HVV.out _ (List.getElem_mem hkV)
              have hxl := HLI.out _ (List.getElem_mem hkl)
              obtain ⟨b, off, rfl, e0⟩ := (HV5.out.keepL (cells_keepL hB (Nat.le_refl _))) k hkV
              obtain ⟨b2, off2, rfl, f0, f1⟩ := (HL5.out.keepL (cells_keepL hB (Nat.le_refl _))) k hkl
              have hst := zip_take o hkV hkl
              generalize V[k] = x at e0 hst hxV
              generalize l[k] = y at f0 f1 hst hxl
              obtain ⟨g, E⟩ := y
              simp only at f0 f1 hxl
              have hst2 : (B1 && ((V.zip l).take (k + 1)).all fun p => inV o p.1 p.2) = ((B1 && ((V.zip l).take k).all fun p => inV o p.1 p.2) && if emB x = true then !g && decide (Num.nv E < Num.nv o) else decide (Num.nv E < Num.nv x)) := by rw [hst, Bool.and_assoc]; rfl
              generalize (B1 && ((V.zip l).take k).all fun p => inV o p.1 p.2) = A at hst2 ⊢
              clear hst hkV hkl
              cases A
              · have HST : Hid ((B1 && ((V.zip l).take (k + 1)).all fun p => inV o p.1 p.2) = false) := by rw [Bool.false_and] at hst2; exact hst2
                clear hst2 hxV hxl
                rcases em_cases x with ⟨h1, rfl⟩ | ⟨h1, h2, h3⟩
                · clear h1
                  go_wp2_with fail
                  exact ⟨⟨k + 1, by omega, by go_num, by rw [HST.out], hB⟩, by simp [intOf]; omega⟩
                · clear h1
                  go_wp2_with fail
                  exact ⟨⟨k + 1, by omega, by go_num, by rw [HST.out], hB⟩, by simp [intOf]; omega⟩
              · rw [Bool.true_and] at hst2
                rcases em_cases x with ⟨h1, rfl⟩ | ⟨h1, h2, h3⟩
                · rw [if_pos h1] at hst2
                  clear h1 hxV
                  cases g
                  · obtain ⟨D2, hD2⟩ : ∃ D, decide (Num.nv E < Num.nv o) = D := ⟨_, rfl⟩
                    rw [hD2, Bool.not_false, Bool.true_and] at hst2
                    have HST := Lib.hid hst2
                    clear hst2
                    rcases ncmpLt (Num.nv E) (Num.nv o) with ⟨t1, t2⟩ | ⟨t1, t2 | t2⟩
                    all_goals
                      first | (have hq := hD2.symm.trans (decide_eq_true t1); subst hq) | (have hq := hD2.symm.trans (decide_eq_false t1); subst hq)
                      have HC := Lib.hid (rcmpL hxl HOI.out t2)
                      clear t1 t2 hxl hD2
                      go_wp2_with fail
                      refine (HC.out _).mono ?_; rintro e w6 ⟨rfl, b6⟩
                      have hB6 := hB.trans (b6.mono hB.size)
                      go_wp2_with fail
                      exact ⟨⟨k + 1, by omega, by go_num, by rw [HST.out], hB6⟩, by simp [intOf]; omega⟩
                  · have HST : Hid ((B1 && ((V.zip l).take (k + 1)).all fun p => inV o p.1 p.2) = false) := hst2
                    clear hst2 hxl
                    go_wp2_with fail
                    exact ⟨⟨k + 1, by omega, by go_num, by rw [HST.out], hB⟩, by simp [intOf]; omega⟩
                · rw [if_neg (by rw [h1]; decide)] at hst2
                  clear h1
                  obtain ⟨D2, hD2⟩ : ∃ D, decide (Num.nv E < Num.nv x) = D := ⟨_, rfl⟩
                  rw [hD2] at hst2
                  have HST := Lib.hid hst2
                  clear hst2
                  rcases ncmpLt (Num.nv E) (Num.nv x) with ⟨t1, t2⟩ | ⟨t1, t2 | t2⟩
                  all_goals
                    first | (have hq := hD2.symm.trans (decide_eq_true t1); subst hq) | (have hq := hD2.symm.trans (decide_eq_false t1); subst hq)
                    have HC := Lib.hid (rcmpL hxl hxV t2)
                    clear t1 t2 hxl hxV hD2
                    go_wp2_with fail
                    refine (HC.out _).mono ?_; rintro e w6 ⟨rfl, b6⟩
                    have hB6 := hB.trans (b6.mono hB.size)
                    go_wp2_with fail
                    exact ⟨⟨k + 1, by omega, by go_num, by rw [HST.out], hB6⟩, by simp [intOf]; omega⟩
            · obtain rfl : n = k := by omega
              rw [List.take_of_length_le (by rw [List.length_zip, HNV.out, HNN.out]; omega)]
              have hbf := hbw.trans (hB.mono hbw.size)
              have hdd := HDD.out
              generalize ((V.zip l).all fun p => inV o p.1 p.2) = B2 at hdd ⊢
              rw [Bool.and_comm] at hdd
              subst hdd
              generalize (B1 && B2) = B
              have q3 : (B == B) = true := by simp
              clear HDD hB
              cases B
              all_goals
                go_wp2_with fail
                refine (awakeL _).mono ?_; rintro e w6 ⟨rfl, b6⟩
                have hb6 := hbf.trans (b6.mono hbf.size)
                go_wp2_with fail
                go_ret
                exact ⟨rfl, hb6⟩
end Go.Proofs.YtcbamkgomnhdbaaGreatDoor

/- Sums of integers, as the reference makes them. -/
namespace Go.Proofs.YtcbamkgomnhdbaaGreatDoor
open Go.RowKit Num
set_option maxRecDepth 20000
set_option linter.unusedVariables false
set_option exponentiation.threshold 3000
/-- the sum that the reference makes -/
def adP (p q : Bool × ByteArray) : Bool × ByteArray := if ivB p = true ∧ ivB q = true then (zb (zi p + zi q), zs (zi p + zi q)) else (false, ⟨#[]⟩)
def adE (p q : Bool × ByteArray) : Int := if ivB p = true ∧ ivB q = true then 0 else 3
def adL (v w : List (Bool × ByteArray)) : List (Bool × ByteArray) := (v.zip w).map fun p => adP p.1 p.2
theorem ad_ok {p q : Bool × ByteArray} (hp : ivB p = true) (hq : ivB q = true) (sp : p.2.size ≤ 24) (sq : q.2.size ≤ 24) : ZOk (zi p + zi q) ∧ (zs (zi p + zi q)).size ≤ 32 := by
  have h1 := zi_lt hp sp
  have h2 := zi_lt hq sq
  have h3 : (zi p + zi q).natAbs < 256 ^ 32 := Nat.lt_of_le_of_lt (Int.natAbs_add_le _ _) (Nat.lt_of_lt_of_le (Nat.add_lt_add h1 h2) (by decide +kernel))
  have h4 : blen (zi p + zi q).natAbs ≤ 32 := by rw [blen_le_iff]; exact h3
  exact ⟨by unfold ZOk; omega, by unfold zs; rw [size_enc]; exact h4⟩
theorem adP_size {p q : Bool × ByteArray} (sp : p.2.size ≤ 24) (sq : q.2.size ≤ 24) : (adP p q).2.size ≤ 32 := by
  unfold adP
  split
  · rename_i h; exact (ad_ok h.1 h.2 sp sq).2
  · decide
theorem adP_iv {p q : Bool × ByteArray} (hp : ivB p = true) (hq : ivB q = true) (sp : p.2.size ≤ 24) (sq : q.2.size ≤ 24) : ivB (adP p q) = true ∧ zi (adP p q) = zi p + zi q := by
  have h := (ad_ok hp hq sp sq).1
  unfold adP
  rw [if_pos ⟨hp, hq⟩]
  exact ⟨iv_zz h, zi_z h⟩
theorem adL_len {v w : List (Bool × ByteArray)} (h : w.length = v.length) : (adL v w).length = v.length := by unfold adL; rw [List.length_map, List.length_zip]; omega
theorem adL_at {v w : List (Bool × ByteArray)} {k : Nat} (h : k < (adL v w).length) (h1 : k < v.length) (h2 : k < w.length) : (adL v w)[k] = adP v[k] w[k] := by
  simp [adL]
theorem adL_take {v w : List (Bool × ByteArray)} {k : Nat} (h : w.length = v.length) (h1 : k < v.length) (h2 : k < w.length) : (adL v w).take (k + 1) = (adL v w).take k ++ [adP v[k] w[k]] := by
  have h3 : k < (adL v w).length := by rw [adL_len h]; exact h1
  rw [List.take_succ_eq_append_getElem h3, adL_at h3 h1 h2]
theorem adL_mem {v w : List (Bool × ByteArray)} (h : w.length = v.length) {x : Bool × ByteArray} (hx : x ∈ adL v w) : ∃ k, ∃ (h1 : k < v.length) (h2 : k < w.length), x = adP v[k] w[k] := by
  obtain ⟨k, hk, rfl⟩ := List.mem_iff_getElem.1 hx
  have h1 : k < v.length := by rw [adL_len h] at hk; exact hk
  have h2 : k < w.length := by omega
  exact ⟨k, h1, h2, adL_at hk h1 h2⟩
theorem adL_sz {v w : List (Bool × ByteArray)} (h : w.length = v.length) (hv : FIP v) (hw : FIP w) : SzL (adL v w) := fun x hx => by
  obtain ⟨k, h1, h2, rfl⟩ := adL_mem h hx
  exact adP_size (hv.2 k h1) (hw.2 k h2)
theorem adL_iv {v w : List (Bool × ByteArray)} (h : w.length = v.length) (hv : FIP v) (hw : FIP w) (iv : v.all ivB = true) (iw : w.all ivB = true) : (adL v w).all ivB = true := by
  rw [List.all_eq_true]
  intro x hx
  obtain ⟨k, h1, h2, rfl⟩ := adL_mem h hx
  exact (adP_iv (List.all_eq_true.1 iv _ (List.getElem_mem h1)) (List.all_eq_true.1 iw _ (List.getElem_mem h2)) (hv.2 k h1) (hw.2 k h2)).1
theorem adL_zi {v w : List (Bool × ByteArray)} (h : w.length = v.length) (hv : FIP v) (hw : FIP w) (iv : v.all ivB = true) (iw : w.all ivB = true) (k : Nat) (hk : k < v.length) : zi ((adL v w).getD k (false, ⟨#[]⟩)) = zi (v.getD k (false, ⟨#[]⟩)) + zi (w.getD k (false, ⟨#[]⟩)) := by
  have h2 : k < w.length := by omega
  have h3 : k < (adL v w).length := by rw [adL_len h]; exact hk
  have e1 : (adL v w).getD k (false, ⟨#[]⟩) = (adL v w)[k] := by simp [List.getD_eq_getElem?_getD, h3]
  have e2 : v.getD k (false, ⟨#[]⟩) = v[k] := by simp [List.getD_eq_getElem?_getD, hk]
  have e3 : w.getD k (false, ⟨#[]⟩) = w[k] := by simp [List.getD_eq_getElem?_getD, h2]
  rw [e1, e2, e3, adL_at h3 hk h2]
  exact (adP_iv (List.all_eq_true.1 iv _ (List.getElem_mem hk)) (List.all_eq_true.1 iw _ (List.getElem_mem h2)) (hv.2 k hk) (hw.2 k h2)).2
theorem adL_sms {S : StM} {v w : List (Bool × ByteArray)} (hS : FewP S) (h : w.length = v.length) (hv : FIP v) (hw : FIP w) : SmS S (adL v w) := ⟨(few_sms hS hv).q, adL_sz h hv hw⟩
/-- where both are ready, so is the sum, and its images are the products -/
theorem ad_facts {S : StM} {v w : List (Bool × ByteArray)} (hS : FewP S) (h : w.length = v.length) (hv : FIP v) (hw : FIP w) (rv : rdE S.pl v = 0) (rw' : rdE S.pl w = 0) :
    lckE S.pl = 0 ∧ rdE S.pl (adL v w) = 0 ∧ imgS S.pl v = S.Q.map (fun q => imQ S.pl v (eqp q)) ∧ imgS S.pl w = S.Q.map (fun q => imQ S.pl w (eqp q)) ∧ imgS S.pl (adL v w) = S.Q.map (fun q => imQ S.pl (adL v w) (eqp q)) ∧
    ∀ q ∈ S.Q, ∃ j : Nat, q.1 = (j : Int) ∧ j < S.G.length ∧ gmE (S.G.getD j (⟨#[]⟩, ⟨#[]⟩)).1 (S.G.getD j (⟨#[]⟩, ⟨#[]⟩)).2 (imQ S.pl v (eqp q)) (imQ S.pl w (eqp q)) = 0 ∧ gmS (S.G.getD j (⟨#[]⟩, ⟨#[]⟩)).1 (S.G.getD j (⟨#[]⟩, ⟨#[]⟩)).2 (imQ S.pl v (eqp q)) (imQ S.pl w (eqp q)) = imQ S.pl (adL v w) (eqp q) := by
  obtain ⟨a1, a2, a3, a4⟩ := rd_zero rv
  obtain ⟨b1, b2, b3, b4⟩ := rd_zero rw'
  have c3 := adL_iv h hv hw a3 b3
  have c4 : (adL v w).length = S.V.length := by rw [adL_len h]; exact a4
  have c0 : rdE S.pl (adL v w) = 0 := by
    have hck := a1
    unfold lckE at hck
    rw [if_pos a2] at hck
    unfold rdE
    rw [if_pos ⟨a2, c3⟩, if_pos hck, if_pos (show (adL v w).length = S.pl.V.length from c4)]
  have im : ∀ l, rdE S.pl l = 0 → imgS S.pl l = S.Q.map (fun q => imQ S.pl l (eqp q)) := fun l hl => by unfold imgS; rw [if_pos hl]; unfold imS; rw [StM.pl_Q, List.map_map]; rfl
  refine ⟨a1, c0, im v rv, im w rw', im _ c0, fun q hq => ?_⟩
  obtain ⟨hf, hm, he, ht⟩ := ck_parts a1
  have hq' : eqp q ∈ S.pl.Q := by rw [StM.pl_Q]; exact List.mem_map_of_mem hq
  obtain ⟨f1, f2, f3, f4⟩ := form_q hf hq'
  obtain ⟨g1, g2⟩ := im_add a1 a3 b3 c3 a4 b4 c4 (fun k hk => adL_zi h hv hw a3 b3 k (by rw [a4]; exact hk)) hq' ((few_sms hS hv).q q hq) (few_sms hS hv).l (few_sms hS hw).l (adL_sz h hv hw)
  exact ⟨q.1.toNat, by have : 0 ≤ q.1 := f1; omega, f2, g1, g2⟩
theorem ad_lens {S : StM} {v w : List (Bool × ByteArray)} (h : rdE S.pl v ≠ 0 ∨ rdE S.pl w ≠ 0) : (imgS S.pl v).length + (imgS S.pl w).length ≤ S.Q.length := by
  have im : ∀ l, (imgS S.pl l).length ≤ S.Q.length := fun l => by
    unfold imgS
    split
    · unfold imS; rw [StM.pl_Q, List.length_map, List.length_map]; omega
    · simp
  rcases h with h | h
  · have e : imgS S.pl v = [] := by unfold imgS; rw [if_neg h]
    have := im w
    rw [e, List.length_nil]; omega
  · have e : imgS S.pl w = [] := by unfold imgS; rw [if_neg h]
    have := im v
    rw [e, List.length_nil]; omega
set_option maxHeartbeats 4000000 in
theorem ref2Add_ad (p q : Bool × ByteArray) (w : World) (sp : p.2.size ≤ 24) (sq : q.2.size ≤ 24) :
    Calls Tryz.prog 21 #[.agg #[.bool p.1, .string p.2], .agg #[.bool q.1, .string q.2]] w fun e w' => e = .returned (.tuple #[.agg #[.bool (adP p q).1, .string (adP p q).2], .int .i64 (adE p q)]) ∧ Below w.heap.size w w' := by
  by_cases h : ivB p = true ∧ ivB q = true
  · obtain ⟨h1, h2⟩ := h
    have e1 : adP p q = (zb (zi p + zi q), zs (zi p + zi q)) := by unfold adP; rw [if_pos ⟨h1, h2⟩]
    have e2 : adE p q = 0 := by unfold adE; rw [if_pos ⟨h1, h2⟩]
    rw [e1, e2]
    obtain ⟨a1, a2, a3, a4⟩ := zi_iv h1
    obtain ⟨b1, b2, b3, b4⟩ := zi_iv h2
    have hh := ref2Add_z (zi p) (zi q) w a3 b3 (ad_ok h1 h2 sp sq).1
    rw [← a1, ← a2, ← b1, ← b2] at hh
    exact hh
  · have e1 : adP p q = (false, ⟨#[]⟩) := by unfold adP; rw [if_neg h]
    have e2 : adE p q = 3 := by unfold adE; rw [if_neg h]
    rw [e1, e2]
    obtain ⟨g, s⟩ := p
    obtain ⟨b, t⟩ := q
    obtain ⟨w1, hw1, bx, by', br, hs1, b1⟩ := box3' w g s b t
    have k0 := bx.c0
    have k1 := bx.c1
    obtain ⟨V, hV⟩ : ∃ V, ivB (g, s) = V := ⟨_, rfl⟩
    obtain ⟨U, hU⟩ : ∃ V, ivB (b, t) = V := ⟨_, rfl⟩
    have H1 := Lib.hid (rivalidW hV)
    have H2 := Lib.hid (rivalidW hU)
    have hVU : ¬ (V = true ∧ U = true) := by rw [← hV, ← hU]; exact h
    clear hV hU h e1 e2 sp sq
    cases V
    · clear H2 hVU
      go_enter Tryz.func21, Tryz.ntmps21
      go_wp2_with fail
      clear k0 k1
      refine (H1.out _).mono ?_; rintro e w2 ⟨rfl, b2⟩
      have r1 := br.below b2 br.lt
      replace b2 := b1.trans (b2.mono b1.size)
      have f0 := r1.f0
      have f1 := r1.f1
      have g0 := r1.c0
      have g1 := r1.c1
      go_wp2_with fail
      refine bodyPost_int2 rfl rfl rfl (put2 r1) rfl ⟨rfl, ?_⟩
      exact (b2.setCell (p := ⟨w.heap.size + 1 + 1, 0, none⟩) (by simp; omega) _).setCell (p := ⟨w.heap.size + 1 + 1, 1, none⟩) (by simp; omega) _
    · cases U
      · clear hVU
        go_enter Tryz.func21, Tryz.ntmps21
        go_wp2_with fail
        clear k0 k1
        refine (H1.out _).mono ?_; rintro e w2 ⟨rfl, b2⟩
        have r1 := br.below b2 br.lt
        have y1 := by'.below b2 by'.lt
        replace b2 := b1.trans (b2.mono b1.size)
        have k2 := y1.c0
        have k3 := y1.c1
        go_wp2_with fail
        clear k2 k3
        refine (H2.out _).mono ?_; rintro e w3 ⟨rfl, b3⟩
        have r2 := r1.below b3 r1.lt
        replace b3 := b2.trans (b3.mono b2.size)
        have f0 := r2.f0
        have f1 := r2.f1
        have g0 := r2.c0
        have g1 := r2.c1
        go_wp2_with fail
        refine bodyPost_int2 rfl rfl rfl (put2 r2) rfl ⟨rfl, ?_⟩
        exact (b3.setCell (p := ⟨w.heap.size + 1 + 1, 0, none⟩) (by simp; omega) _).setCell (p := ⟨w.heap.size + 1 + 1, 1, none⟩) (by simp; omega) _
      · exact absurd ⟨rfl, rfl⟩ hVU
end Go.Proofs.YtcbamkgomnhdbaaGreatDoor

/- The walk of LinearAdds. -/
namespace Go.Proofs.YtcbamkgomnhdbaaGreatDoor
open Go.RowKit Num
set_option maxRecDepth 20000
set_option linter.unusedVariables false
set_option maxHeartbeats 32000000 in
theorem ladds_walk (a : StA) (S : StM) (vo wo : Option Addr) (n n' c c' : Nat) (v l : List (Bool × ByteArray)) (w : World) (hok : S.ok) (hS : SS w a S) (hv : IS w vo v) (hl : IS w wo l) (hvn : v.length = n) (hn : l.length = n') (hv1 : n ≤ maxLen) (hn1 : n' ≤ maxLen) (hvz : ∀ x ∈ v, x.2.size ≤ maxLen) (hzz : ∀ x ∈ l, x.2.size ≤ maxLen) :
    Calls Tryz.prog 7 #[.agg #[.slice a.ga S.G.length a.gc, .slice a.va S.V.length a.vc, .slice a.qa S.Q.length a.qc], .slice vo n c, .slice wo n' c'] w fun e w' => e = .returned (.bool true) ∧ Below w.heap.size w w' := by
  have hb := (Below.refl _ w).alloc (Nat.le_refl _) (.cells #[.slice a.ga S.G.length a.gc, .slice a.va S.V.length a.vc, .slice a.qa S.Q.length a.qc] 26)
  have hX := SXB.new w a S
  have hS0 := hS.below hb (Nat.le_refl _)
  have hv0 := hv.below hb (Nat.le_refl _)
  have hl0 := hl.below hb (Nat.le_refl _)
  have H1 := Lib.hid (few_any a S (w.alloc (.cells #[.slice a.ga S.G.length a.gc, .slice a.va S.V.length a.vc, .slice a.qa S.Q.length a.qc] 26)) hS0 hok)
  have H2 := Lib.hid (fun w' (hb' : Below (w.alloc (.cells #[.slice a.ga S.G.length a.gc, .slice a.va S.V.length a.vc, .slice a.qa S.Q.length a.qc] 26)).heap.size (w.alloc (.cells #[.slice a.ga S.G.length a.gc, .slice a.va S.V.length a.vc, .slice a.qa S.Q.length a.qc] 26)) w') => fewInts_any vo n c v w' (hv0.below hb' (Nat.le_refl _)) hvn hv1 hvz)
  have H3 := Lib.hid (fun w' (hb' : Below (w.alloc (.cells #[.slice a.ga S.G.length a.gc, .slice a.va S.V.length a.vc, .slice a.qa S.Q.length a.qc] 26)).heap.size (w.alloc (.cells #[.slice a.ga S.G.length a.gc, .slice a.va S.V.length a.vc, .slice a.qa S.Q.length a.qc] 26)) w') => fewInts_any wo n' c' l w' (hl0.below hb' (Nat.le_refl _)) hn hn1 hzz)
  have HI1 := Lib.hid (fun w' (hb' : Below (w.alloc (.cells #[.slice a.ga S.G.length a.gc, .slice a.va S.V.length a.vc, .slice a.qa S.Q.length a.qc] 26)).heap.size (w.alloc (.cells #[.slice a.ga S.G.length a.gc, .slice a.va S.V.length a.vc, .slice a.qa S.Q.length a.qc] 26)) w') (hf : FewP S) (hg : FIP v) => limages_any a S vo n c v w' (hS0.below hb' (Nat.le_refl _)) hok (hv0.below hb' (Nat.le_refl _)) hvn hv1 (few_sms hf hg))
  have HI2 := Lib.hid (fun w' (hb' : Below (w.alloc (.cells #[.slice a.ga S.G.length a.gc, .slice a.va S.V.length a.vc, .slice a.qa S.Q.length a.qc] 26)).heap.size (w.alloc (.cells #[.slice a.ga S.G.length a.gc, .slice a.va S.V.length a.vc, .slice a.qa S.Q.length a.qc] 26)) w') (hf : FewP S) (hg : FIP l) => limages_any a S wo n' c' l w' (hS0.below hb' (Nat.le_refl _)) hok (hl0.below hb' (Nat.le_refl _)) hn hn1 (few_sms hf hg))
  have HI3 := Lib.hid (fun w' (hb' : Below (w.alloc (.cells #[.slice a.ga S.G.length a.gc, .slice a.va S.V.length a.vc, .slice a.qa S.Q.length a.qc] 26)).heap.size (w.alloc (.cells #[.slice a.ga S.G.length a.gc, .slice a.va S.V.length a.vc, .slice a.qa S.Q.length a.qc] 26)) w') (hf : FewP S) (hg : FIP v) (hh : FIP l) (he : l.length = v.length) (so : Option Addr) (m cc : Nat) (hm : (adL v l).length = m) (hm1 : m ≤ maxLen) (hi : IS w' so (adL v l)) => limages_any a S so m cc (adL v l) w' (hS0.below hb' (Nat.le_refl _)) hok hi hm hm1 (adL_sms hf he hg hh))
  have HCK := Lib.hid (fun w' (hb' : Below (w.alloc (.cells #[.slice a.ga S.G.length a.gc, .slice a.va S.V.length a.vc, .slice a.qa S.Q.length a.qc] 26)).heap.size (w.alloc (.cells #[.slice a.ga S.G.length a.gc, .slice a.va S.V.length a.vc, .slice a.qa S.Q.length a.qc] 26)) w') (hf : FewP S) => rcheck_any a S w' (hS0.below hb' (Nat.le_refl _)) hok (few_64 hf))
  unfold FWP at H1 H2 H3
  have hX0 := hX.c0
  have hX1 := hX.c1
  have hX2 := hX.c2
  have HZ0 : Hid (FewP S → FIP v → FIP l → l.length = v.length → rdE S.pl v = 0 → rdE S.pl l = 0 → lckE S.pl = 0 ∧ rdE S.pl (adL v l) = 0 ∧ imgS S.pl v = S.Q.map (fun q => imQ S.pl v (eqp q)) ∧ imgS S.pl l = S.Q.map (fun q => imQ S.pl l (eqp q)) ∧ imgS S.pl (adL v l) = S.Q.map (fun q => imQ S.pl (adL v l) (eqp q)) ∧
    ∀ q ∈ S.Q, ∃ j : Nat, q.1 = (j : Int) ∧ j < S.G.length ∧ gmE (S.G.getD j (⟨#[]⟩, ⟨#[]⟩)).1 (S.G.getD j (⟨#[]⟩, ⟨#[]⟩)).2 (imQ S.pl v (eqp q)) (imQ S.pl l (eqp q)) = 0 ∧ gmS (S.G.getD j (⟨#[]⟩, ⟨#[]⟩)).1 (S.G.getD j (⟨#[]⟩, ⟨#[]⟩)).2 (imQ S.pl v (eqp q)) (imQ S.pl l (eqp q)) = imQ S.pl (adL v l) (eqp q)) := fun h1 h2 h3 h4 h5 h6 => ad_facts h1 h4 h2 h3 h5 h6
  have HZ1 : Hid (rdE S.pl v ≠ 0 ∨ rdE S.pl l ≠ 0 → (imgS S.pl v).length + (imgS S.pl l).length ≤ S.Q.length) := ad_lens
  obtain ⟨Z1, hZ1⟩ : ∃ Z, rdE S.pl v = Z := ⟨_, rfl⟩
  obtain ⟨Z2, hZ2⟩ : ∃ Z, rdE S.pl l = Z := ⟨_, rfl⟩
  obtain ⟨Z3, hZ3⟩ : ∃ Z, rdE S.pl (adL v l) = Z := ⟨_, rfl⟩
  obtain ⟨CK, hCK⟩ : ∃ Z, lckE S.pl = Z := ⟨_, rfl⟩
  obtain ⟨I1, hI1⟩ : ∃ Z, imgS S.pl v = Z := ⟨_, rfl⟩
  obtain ⟨I2, hI2⟩ : ∃ Z, imgS S.pl l = Z := ⟨_, rfl⟩
  obtain ⟨I3, hI3⟩ : ∃ Z, imgS S.pl (adL v l) = Z := ⟨_, rfl⟩
  obtain ⟨F1, hF1⟩ : ∃ f, (fun q => imQ S.pl v (eqp q)) = f := ⟨_, rfl⟩
  obtain ⟨F2, hF2⟩ : ∃ f, (fun q => imQ S.pl l (eqp q)) = f := ⟨_, rfl⟩
  obtain ⟨F3, hF3⟩ : ∃ f, (fun q => imQ S.pl (adL v l) (eqp q)) = f := ⟨_, rfl⟩
  have hf1 : ∀ q, imQ S.pl v (eqp q) = F1 q := fun q => by rw [← hF1]
  have hf2 : ∀ q, imQ S.pl l (eqp q) = F2 q := fun q => by rw [← hF2]
  have hf3 : ∀ q, imQ S.pl (adL v l) (eqp q) = F3 q := fun q => by rw [← hF3]
  simp only [hf1, hf2, hf3] at HZ0
  rw [hZ1, hZ2, hI1, hI2] at HZ0 HZ1
  rw [hZ3, hI3, hCK] at HZ0
  rw [hZ1, hI1] at HI1
  rw [hZ2, hI2] at HI2
  rw [hZ3, hI3] at HI3
  rw [hCK] at HCK
  have HG := Lib.hid hS0.g
  have HQ := Lib.hid hS0.q
  have HV := Lib.hid hv0
  have HLL := Lib.hid hl0
  have HNV := Lib.hid hvn
  have HNN := Lib.hid hn
  have l1 : S.G.length ≤ maxLen := hok.gl
  have l2 : S.V.length ≤ maxLen := hok.vl
  have l3 : S.Q.length ≤ maxLen := hok.ql
  obtain ⟨i1, hy, hy0, hy1, hy2⟩ := info_parts info_int2
  have HI := Lib.hid (And.intro hy (And.intro hy0 (And.intro hy1 hy2)))
  unfold maxLen at l1 l2 l3 hn1 hv1
  clear hy hy0 hy1 hy2
  clear hS hS0 hok hX hZ1 hZ2 hZ3 hCK hI1 hI2 hI3 hF1 hF2 hF3 hf1 hf2 hf3 hl hl0 hv hv0 hn hvn hzz hvz
  go_enter Tryz.func7, Tryz.ntmps7
  go_wp2_with fail
  generalize hw0 : World.alloc _ _ = w0 at hb hX0 hX1 hX2 H1 H2 H3 HI1 HI2 HI3 HCK HG HQ HV HLL ⊢
  clear hw0
  go_wp2_with fail
  refine H1.out.mono ?_; rintro e w1 ⟨V, rfl, hV, b1⟩
  have hb1 := hb.trans (b1.mono hb.size)
  have x0 := cells_keepL b1 (Nat.le_refl _) _ _ hX0
  have x1 := cells_keepL b1 (Nat.le_refl _) _ _ hX1
  have x2 := cells_keepL b1 (Nat.le_refl _) _ _ hX2
  clear hX0 hX1 hX2 H1
  cases V
  · clear hV
    go_wp2_with fail
    refine (awakeL _).mono ?_; rintro e w2 ⟨rfl, b2⟩
    have hb2 := hb1.trans (b2.mono hb1.size)
    go_wp2_with fail
    go_ret
    exact ⟨rfl, hb2⟩
  have HF := Lib.hid (hV rfl)
  clear hV
  go_wp2_with fail
  refine (H2.out _ b1).mono ?_; rintro e w2 ⟨V, rfl, hV, b2⟩
  have hb2 := hb1.trans (b2.mono hb1.size)
  have b12 := b1.trans (b2.mono b1.size)
  have y0 := cells_keepL b2 (Nat.le_refl _) _ _ x0
  have y1 := cells_keepL b2 (Nat.le_refl _) _ _ x1
  have y2 := cells_keepL b2 (Nat.le_refl _) _ _ x2
  clear x0 x1 x2 hb1 b1 b2 H2
  cases V
  · clear hV
    go_wp2_with fail
    refine (awakeL _).mono ?_; rintro e w3 ⟨rfl, b3⟩
    have hb3 := hb2.trans (b3.mono hb2.size)
    go_wp2_with fail
    go_ret
    exact ⟨rfl, hb3⟩
  have HFV := Lib.hid (hV rfl)
  clear hV
  go_wp2_with fail
  refine (H3.out _ b12).mono ?_; rintro e w3 ⟨V, rfl, hV, b3⟩
  have hb3 := hb2.trans (b3.mono hb2.size)
  have b13 := b12.trans (b3.mono b12.size)
  have x0 := cells_keepL b3 (Nat.le_refl _) _ _ y0
  have x1 := cells_keepL b3 (Nat.le_refl _) _ _ y1
  have x2 := cells_keepL b3 (Nat.le_refl _) _ _ y2
  clear y0 y1 y2 hb2 b12 b3 H3
  cases V
  · clear hV
    go_wp2_with fail
    refine (awakeL _).mono ?_; rintro e w4 ⟨rfl, b4⟩
    have hb4 := hb3.trans (b4.mono hb3.size)
    go_wp2_with fail
    go_ret
    exact ⟨rfl, hb4⟩
  have HFL := Lib.hid (hV rfl)
  clear hV
  obtain ⟨ga, gc, va, vc, qa, qc⟩ := a
  obtain ⟨G, V, Q⟩ := S
  simp only at x0 x1 x2 l1 l2 l3 HQ HG HZ1
  obtain ⟨ng, hng⟩ : ∃ n, G.length = n := ⟨_, rfl⟩
  obtain ⟨nw, hnw⟩ : ∃ n, V.length = n := ⟨_, rfl⟩
  obtain ⟨mq, hmq⟩ : ∃ n, Q.length = n := ⟨_, rfl⟩
  have HNG := Lib.hid hng
  have HNQ := Lib.hid hmq
  have HZ2 : Hid (Z1 ≠ 0 ∨ Z2 ≠ 0 → I1.length + I2.length ≤ mq) := fun h => by rw [← hmq]; exact HZ1.out h
  simp only [hng, hnw, hmq] at x0 x1 x2 l1 l2 l3 HI1 HI2 HI3 HCK ⊢
  clear hng hnw hmq HZ1
  by_cases hvw : n = nw
  rotate_left
  · have q1 : ((n : Int) != (nw : Int)) = true := by rw [bne_iff_ne]; omega
    have q2 : ¬ (n : Int) = (nw : Int) := by omega
    go_wp2_with fail
    refine (awakeL _).mono ?_; rintro e w4 ⟨rfl, b4⟩
    have hb4 := hb3.trans (b4.mono hb3.size)
    go_wp2_with fail
    go_ret
    exact ⟨rfl, hb4⟩
  subst hvw
  have q1 : ((n : Int) != (n : Int)) = false := by simp
  by_cases hlw : n' = n
  rotate_left
  · have q3 : ((n' : Int) != (n : Int)) = true := by rw [bne_iff_ne]; omega
    have q2 : ¬ (n' : Int) = (n : Int) := by omega
    go_wp2_with fail
    refine (awakeL _).mono ?_; rintro e w4 ⟨rfl, b4⟩
    have hb4 := hb3.trans (b4.mono hb3.size)
    go_wp2_with fail
    go_ret
    exact ⟨rfl, hb4⟩
  subst hlw
  have HEQ : Hid (l.length = v.length) := by show l.length = v.length; rw [HNV.out, HNN.out]
  have HVc := Lib.hid (HV.out.keepL (cells_keepL b13 (Nat.le_refl _)))
  have HLc := Lib.hid (HLL.out.keepL (cells_keepL b13 (Nat.le_refl _)))
  have hR := RD.start w3
  have h20 : n' ≤ 20 := by have := HFV.out.1; rw [HNV.out] at this; exact this
  go_wp2_with fail
  go_loopw [7, 8] (fun v7 v8 wr => ∃ k : Nat, k ≤ n' ∧ v8 = .int .i64 (k : Int) ∧ RD w3 wr (.slice none 0 0) v7 0 k [] ((adL v l).take k)) (fun _ v8 _ => n' - (intOf v8).toNat)
  case atStart => exact ⟨0, by omega, rfl, hR⟩
  case round =>
    clear hR
    obtain ⟨k, hk, rfl, hR⟩ := hrel
    have hB := hR.bl
    by_cases hlt : k < n'
    · have hkv : k < v.length := by rw [HNV.out]; exact hlt
      have hkl : k < l.length := by rw [HNN.out]; exact hlt
      obtain ⟨b, off, rfl, e0, e1⟩ := (HVc.out.keepL (cells_keepL hB (Nat.le_refl _))) k hkv
      obtain ⟨b2, off2, rfl, f0, f1⟩ := (HLc.out.keepL (cells_keepL hB (Nat.le_refl _))) k hkl
      have hst := adL_take HEQ.out hkv hkl
      have s1 := HFV.out.2 k hkv
      have s2 := HFL.out.2 k hkl
      generalize v[k] = x at e0 e1 hst s1
      generalize l[k] = y at f0 f1 hst s2
      have HAD := Lib.hid (fun w => ref2Add_ad x y w s1 s2)
      obtain ⟨⟨rg, rE⟩, hr⟩ : ∃ r, adP x y = r := ⟨_, rfl⟩
      obtain ⟨E, hE⟩ : ∃ r, adE x y = r := ⟨_, rfl⟩
      rw [hr, hE] at HAD
      rw [hr] at hst
      obtain ⟨xg, xE⟩ := x
      obtain ⟨yg, yE⟩ := y
      simp only at e0 e1 f0 f1 HAD
      have HST := Lib.hid hst
      clear hst hr hE s1 s2 hkv hkl x0 x1 x2
      go_wp2_with fail
      go_cut [9, 10] from 50 to 71 (fun v9 v10 wc => ∃ pp : Nat, v9 = .pointer (some ⟨pp, 0, none⟩) ∧ v10 = .int .i64 E ∧ IBL wc pp rg rE ∧ Below wr.heap.size wr wc)
      case first =>
        have HMK := Lib.hid (fun w' (hw : Below wr.heap.size wr w') => (⟨cells_keepL hw (Nat.le_refl _) _ _ e0, cells_keepL hw (Nat.le_refl _) _ _ e1, cells_keepL hw (Nat.le_refl _) _ _ f0, cells_keepL hw (Nat.le_refl _) _ _ f1, hw⟩ : w'.cell? ⟨b, off + k * 2, none⟩ = some (.bool xg) ∧ w'.cell? ⟨b, off + k * 2 + 1, none⟩ = some (.string xE) ∧ w'.cell? ⟨b2, off2 + k * 2, none⟩ = some (.bool yg) ∧ w'.cell? ⟨b2, off2 + k * 2 + 1, none⟩ = some (.string yE) ∧ Below wr.heap.size wr w'))
        go_region_held3 (fun w' => w'.cell? ⟨b, off + k * 2, none⟩ = some (.bool xg) ∧ w'.cell? ⟨b, off + k * 2 + 1, none⟩ = some (.string xE) ∧ w'.cell? ⟨b2, off2 + k * 2, none⟩ = some (.bool yg) ∧ w'.cell? ⟨b2, off2 + k * 2 + 1, none⟩ = some (.string yE) ∧ Below wr.heap.size wr w')
          (first | exact HMK.out _ (Below.refl _ _).drew | exact HMK.out _ ((Below.refl _ wr).alloc (Nat.le_refl _) _).drew | exact HMK.out _ ((Below.refl _ wr).alloc (Nat.le_refl _) _) | exact HMK.out _ hbn | exact HMK.out _ (hbn.alloc hbn.size _) | exact HMK.out _ ((hbn.setCell (by simp) _).setCell (by simp) _) | assumption)
          ((go_at_call 21; (with_reducible refine (HAD.out _).mono ?_); rintro e wn ⟨rfl, bn⟩; (first | (have hbn : Below wr.heap.size wr wn := (Below.refl _ wr).drew.trans (bn.mono (Nat.le_refl _)); have hrn := trivial) | (have hbn : Below wr.heap.size wr wn := ((Below.refl _ wr).alloc (Nat.le_refl _) (.cells #[.bool false, .string ⟨#[]⟩] 54)).drew.trans (bn.mono (by simp)); have hrn := (IBL.new wr false ⟨#[]⟩).drew.below bn (IBL.new wr false ⟨#[]⟩).lt; have x0 := hrn.c0; have x1 := hrn.c1; have x2 := hrn.f0; have x3 := hrn.f1))))
        · have hS := HMK.out _ (hbn.alloc hbn.size (.cells #[.bool rg, .string rE] 54))
          go_wp2_with fail
          go_meet
          exact ⟨_, rfl, rfl, IBL.new _ _ _, hS.2.2.2.2⟩
        · have hS := HMK.out _ ((hbn.setCell (p := ⟨wr.heap.size, 0, none⟩) (Nat.le_refl _) (.bool rg)).setCell (p := ⟨wr.heap.size, 1, none⟩) (Nat.le_refl _) (.string rE))
          go_wp2_with fail
          go_meet
          exact ⟨_, rfl, rfl, hrn.put _ _, hS.2.2.2.2⟩
      case rest =>
        obtain ⟨pp, rfl, rfl, hI, hBc⟩ := hcut
        rename World => wc
        have hRc := hR.below hBc
        have g0 := hI.c0
        have g1 := hI.c1
        obtain ⟨hy, hy0, hy1, hy2⟩ := HI.out
        have hR4 := hRc.alloc (.cells #[.bool rg, .string rE] 54)
        have hNI := IBL.new wc rg rE
        clear e0 e1 f0 f1 hBc hR hRc hB hI
        go_wp2_with (at_builtin; refine wpList_append_own _ rfl (.tmp 68) (.tmp 70) 32 rfl w3.heap.size 54 i1 (.agg #[.bool false, .string ⟨#[]⟩]) 2 24 Tryz.underlying32 hy hy0 hy1 hy2 rfl (by decide) u7 k (icl ((adL v l).take k)) rfl hR4.e ⟨wc.heap.size, 0, none⟩ 1 1 [.bool rg, .string rE] rfl rfl (two_cellV hNI.c0 hNI.c1) ?o4 ?o5 ?o6 hR4.bl.size ?_; (case o4 => simp [Value.oneCell']); (case o5 => unfold maxLen; omega); (case o6 => omega); intro v2 w10 hown2 hgrow2 _; have hR7 := hR4.appE hgrow2 hown2; rw [← HST.out] at hR7; clear hown2 hgrow2)
        first | exact ⟨⟨k + 1, by omega, by go_num, hR7⟩, by simp [intOf]; omega⟩ | trace_state
    · obtain rfl : n' = k := by omega
      have hadl : (adL v l).length = n' := by rw [adL_len HEQ.out, HNV.out]
      rw [List.take_of_length_le (by omega)] at hR
      obtain ⟨so, cs, rfl, his⟩ := own_IS hR.e
      have hbr := hb3.trans (hB.mono hb3.size)
      have b1r := b13.trans (hB.mono b13.size)
      have HADL := Lib.hid hadl
      have HIS := Lib.hid his
      have y0 := cells_keepL hB (Nat.le_refl _) _ _ x0
      have y1 := cells_keepL hB (Nat.le_refl _) _ _ x1
      have y2 := cells_keepL hB (Nat.le_refl _) _ _ x2
      clear hR hB hb3 b13 x0 x1 x2 HVc HLc hadl his q1
      obtain ⟨wu, hwu⟩ : ∃ wo : World, wo = wr := ⟨_, rfl⟩
      rw [← hwu] at hbr b1r HIS y0 y1 y2 ⊢
      clear hwu
      go_wp2_with fail
      refine (HI1.out _ b1r HF.out HFV.out).mono ?_; rintro e w4 ⟨ao, m1, c1, rfl, hm1, hN1, b4⟩
      have hb4 := hbr.trans (b4.mono hbr.size)
      have b14 := b1r.trans (b4.mono b1r.size)
      have x0 := cells_keepL b4 (Nat.le_refl _) _ _ y0
      have x1 := cells_keepL b4 (Nat.le_refl _) _ _ y1
      have x2 := cells_keepL b4 (Nat.le_refl _) _ _ y2
      have HIS4 := Lib.hid (HIS.out.keepL (cells_keepL b4 (Nat.le_refl _)))
      have HN1 := Lib.hid hN1
      have HM1 := Lib.hid hm1
      clear y0 y1 y2 hbr b1r b4 hN1 hm1 HI1 HIS
      go_wp2_with fail
      refine (HI2.out _ b14 HF.out HFL.out).mono ?_; rintro e w5 ⟨ao2, m2, c2, rfl, hm2, hN2, b5⟩
      have hb5 := hb4.trans (b5.mono hb4.size)
      have b15 := b14.trans (b5.mono b14.size)
      have y0 := cells_keepL b5 (Nat.le_refl _) _ _ x0
      have y1 := cells_keepL b5 (Nat.le_refl _) _ _ x1
      have y2 := cells_keepL b5 (Nat.le_refl _) _ _ x2
      have HIS5 := Lib.hid (HIS4.out.keepL (cells_keepL b5 (Nat.le_refl _)))
      have HN15 := Lib.hid (HN1.out.keepL (cells_keepL b5 (Nat.le_refl _)))
      have HN2 := Lib.hid hN2
      have HM2 := Lib.hid hm2
      clear x0 x1 x2 hb4 b14 b5 hN2 hm2 HI2 HIS4 HN1
      go_wp2_with fail
      refine (HI3.out _ b15 HF.out HFV.out HFL.out HEQ.out _ _ _ HADL.out (by unfold maxLen; omega) HIS5.out).mono ?_; rintro e w6 ⟨ao3, m3, c3, rfl, hm3, hN3, b6⟩
      have hb6 := hb5.trans (b6.mono hb5.size)
      have b16 := b15.trans (b6.mono b15.size)
      have x0 := cells_keepL b6 (Nat.le_refl _) _ _ y0
      have x1 := cells_keepL b6 (Nat.le_refl _) _ _ y1
      have x2 := cells_keepL b6 (Nat.le_refl _) _ _ y2
      have HN16 := Lib.hid (HN15.out.keepL (cells_keepL b6 (Nat.le_refl _)))
      have HN26 := Lib.hid (HN2.out.keepL (cells_keepL b6 (Nat.le_refl _)))
      have HN36 := Lib.hid hN3
      have HM3 := Lib.hid hm3
      clear y0 y1 y2 hb5 b15 b6 hN3 hm3 HI3 HIS5 HN15 HN2
      by_cases hZZ : Z1 = 0 ∧ Z2 = 0
      rotate_left
      · have hmm : m1 + m2 ≤ mq := by rw [HM1.out, HM2.out]; exact HZ2.out (by by_cases h : Z1 = 0; exact .inr (fun h2 => hZZ ⟨h, h2⟩); exact .inl h)
        have o1 : IntKind.i64.wrap ((m1 : Int) + (m2 : Int)) = (m1 : Int) + (m2 : Int) := by rw [IntKind.wrap_i64]; omega
        have o2 : decide ((m1 : Int) + (m2 : Int) ≤ (mq : Int)) = true := decide_eq_true (by omega)
        have o3 : (m1 : Int) + (m2 : Int) ≤ (mq : Int) := by omega
        clear HZ0 HZ2
        by_cases hz1 : Z1 = 0
        · have hz2 : ¬ Z2 = 0 := fun h => hZZ ⟨hz1, h⟩
          subst hz1
          have q2 : (Z2 != 0) = true := by rw [bne_iff_ne]; exact hz2
          clear hZZ
          go_wp2_with fail
          refine (awakeL _).mono ?_; rintro e w7 ⟨rfl, b7⟩
          have hb7 := hb6.trans (b7.mono hb6.size)
          have z2 := cells_keepL b7 (Nat.le_refl _) _ _ x2
          go_wp2_with fail
          go_ret
          exact ⟨rfl, hb7⟩
        · have q2 : (Z1 != 0) = true := by rw [bne_iff_ne]; exact hz1
          clear hZZ
          go_wp2_with fail
          refine (awakeL _).mono ?_; rintro e w7 ⟨rfl, b7⟩
          have hb7 := hb6.trans (b7.mono hb6.size)
          have z2 := cells_keepL b7 (Nat.le_refl _) _ _ x2
          go_wp2_with fail
          go_ret
          exact ⟨rfl, hb7⟩
      obtain ⟨hz1, hz2⟩ := hZZ
      subst hz1 hz2
      obtain ⟨k1, k2, k3, k4, k5, hp⟩ := HZ0.out HF.out HFV.out HFL.out HEQ.out rfl rfl
      clear HZ0 HZ2
      subst k1 k2 k3 k4 k5
      rw [List.length_map] at HM1 HM2 HM3
      obtain rfl : m1 = mq := by rw [← HNQ.out]; exact HM1.out
      obtain rfl : m2 = m1 := by rw [← HNQ.out]; exact HM2.out
      obtain rfl : m3 = m2 := by rw [← HNQ.out]; exact HM3.out
      have HP := Lib.hid hp
      have HQ6 := Lib.hid (HQ.out.keep (cells_keepL b16 (Nat.le_refl _)))
      have HG6 := Lib.hid (HG.out.keep (cells_keepL b16 (Nat.le_refl _)))
      have q1 : ((m3 : Int) != (m3 : Int)) = false := by simp
      clear hp HM1 HM2 HM3 HQ HG
      go_wp2_with fail
      refine (HCK.out _ b16 HF.out).mono ?_; rintro e w7 ⟨rfl, b7⟩
      have hb7 := hb6.trans (b7.mono hb6.size)
      have y0 := cells_keepL b7 (Nat.le_refl _) _ _ x0
      have y1 := cells_keepL b7 (Nat.le_refl _) _ _ x1
      have y2 := cells_keepL b7 (Nat.le_refl _) _ _ x2
      have HQ7 := Lib.hid (HQ6.out.keep (cells_keepL b7 (Nat.le_refl _)))
      have HG7 := Lib.hid (HG6.out.keep (cells_keepL b7 (Nat.le_refl _)))
      have HA7 := Lib.hid (HN16.out.keepL (cells_keepL b7 (Nat.le_refl _)))
      have HB7 := Lib.hid (HN26.out.keepL (cells_keepL b7 (Nat.le_refl _)))
      have HC7 := Lib.hid (HN36.out.keepL (cells_keepL b7 (Nat.le_refl _)))
      clear x0 x1 x2 HQ6 HG6 HN16 HN26 HN36 b16 b7 hb6 HCK
      go_wp2_with fail
      go_loopw [17] (fun v17 wr => ∃ k : Nat, k ≤ m3 ∧ v17 = .int .i64 (k : Int) ∧ Below w7.heap.size w7 wr) (fun v17 _ => m3 - (intOf v17).toNat)
      case atStart => exact ⟨0, by omega, rfl, Below.refl _ _⟩
      case round =>
        obtain ⟨k, hk, rfl, hB⟩ := hrel
        have d0 := cells_keepL hB (Nat.le_refl _) _ _ y0
        have d2 := cells_keepL hB (Nat.le_refl _) _ _ y2
        by_cases hlt : k < m3
        · have hkQ : k < Q.length := by rw [HNQ.out]; exact hlt
          obtain ⟨b, off, rfl, e0, e1, e2, hTT⟩ := (HQ7.out.keep (cells_keepL hB (Nat.le_refl _))) k hkQ
          obtain ⟨ba, oa, rfl, fa⟩ := (HA7.out.keepL (cells_keepL hB (Nat.le_refl _))) k (by rw [List.length_map]; exact hkQ)
          obtain ⟨bb, ob, rfl, fb⟩ := (HB7.out.keepL (cells_keepL hB (Nat.le_refl _))) k (by rw [List.length_map]; exact hkQ)
          obtain ⟨bc, oc, rfl, fc⟩ := (HC7.out.keepL (cells_keepL hB (Nat.le_refl _))) k (by rw [List.length_map]; exact hkQ)
          rw [List.getElem_map] at fa fb fc
          obtain ⟨j, hj1, hj2, hm1, hm2⟩ := HP.out _ (List.getElem_mem hkQ)
          clear hTT e1 e2
          generalize F1 Q[k] = X at fa hm1 hm2
          generalize F2 Q[k] = Y at fb hm1 hm2
          generalize F3 Q[k] = Z at fc hm2
          generalize Q[k] = x at e0 hj1
          obtain ⟨i, T, ta, tc, L⟩ := x
          simp only at e0 hj1
          subst hj1
          have hjn : j < ng := by rw [← HNG.out]; exact hj2
          rw [grp_at hj2] at hm1 hm2
          obtain ⟨bg, og, rfl, g0, g1⟩ := (HG7.out.keep (cells_keepL hB (Nat.le_refl _))) j hj2
          generalize G[j] = y at g0 g1 hm1 hm2
          obtain ⟨M, O⟩ := y
          simp only at g0 g1 hm1 hm2
          have HMU := Lib.hid (fun w => gMul_any M O X Y w)
          rw [hm1, hm2] at HMU
          clear hm1 hm2 hkQ hj2
          go_wp2_with fail
          go_cut [18, 19] from 135 to 172 (fun v18 v19 wc => v18 = .string Z ∧ v19 = .int .i64 0 ∧ Below wr.heap.size wr wc)
          case first =>
            have HMK := Lib.hid (fun w' (hw : Below wr.heap.size wr w') => (⟨cells_keepL hw (Nat.le_refl _) _ _ d0, cells_keepL hw (Nat.le_refl _) _ _ d2, cells_keepL hw (Nat.le_refl _) _ _ e0, cells_keepL hw (Nat.le_refl _) _ _ g0, cells_keepL hw (Nat.le_refl _) _ _ g1, cells_keepL hw (Nat.le_refl _) _ _ fa, cells_keepL hw (Nat.le_refl _) _ _ fb, hw⟩ : w'.cell? ⟨w.heap.size, 0, none⟩ = some (.slice (some ⟨bg, og, none⟩) ng gc) ∧ w'.cell? ⟨w.heap.size, 2, none⟩ = some (.slice (some ⟨b, off, none⟩) m3 qc) ∧ w'.cell? ⟨b, off + k * 3, none⟩ = some (.int .i64 (j : Int)) ∧ w'.cell? ⟨bg, og + j * 2, none⟩ = some (.string M) ∧ w'.cell? ⟨bg, og + j * 2 + 1, none⟩ = some (.string O) ∧ w'.cell? ⟨ba, oa + k, none⟩ = some (.string X) ∧ w'.cell? ⟨bb, ob + k, none⟩ = some (.string Y) ∧ Below wr.heap.size wr w'))
            go_region_held3 (fun w' => w'.cell? ⟨w.heap.size, 0, none⟩ = some (.slice (some ⟨bg, og, none⟩) ng gc) ∧ w'.cell? ⟨w.heap.size, 2, none⟩ = some (.slice (some ⟨b, off, none⟩) m3 qc) ∧ w'.cell? ⟨b, off + k * 3, none⟩ = some (.int .i64 (j : Int)) ∧ w'.cell? ⟨bg, og + j * 2, none⟩ = some (.string M) ∧ w'.cell? ⟨bg, og + j * 2 + 1, none⟩ = some (.string O) ∧ w'.cell? ⟨ba, oa + k, none⟩ = some (.string X) ∧ w'.cell? ⟨bb, ob + k, none⟩ = some (.string Y) ∧ Below wr.heap.size wr w')
              (first | exact HMK.out _ (Below.refl _ _).drew | exact HMK.out _ hbn | assumption)
              ((go_at_call 22; (with_reducible refine (HMU.out _).mono ?_); rintro e wn ⟨rfl, bn⟩; have hbn : Below wr.heap.size wr wn := (Below.refl _ wr).drew.trans (bn.mono (Nat.le_refl _))))
            go_wp2_with fail
            go_meet
            exact ⟨rfl, rfl, hbn⟩
          case rest =>
            obtain ⟨rfl, rfl, hBc⟩ := hcut
            rename World => wc
            have h0 := cells_keepL hBc (Nat.le_refl _) _ _ fc
            have hB2 := hB.trans (hBc.mono hB.size)
            have t1 : (Z.toList != Z.toList) = false := by simp
            clear d0 d2 e0 g0 g1 fa fb fc hBc hB
            go_wp2_with fail
            exact ⟨⟨k + 1, by omega, by go_num, hB2⟩, by simp [intOf]; omega⟩
        · obtain rfl : m3 = k := by omega
          have hbe := hb7.trans (hB.mono hb7.size)
          clear d0 d2
          go_wp2_with fail
          refine (awakeL _).mono ?_; rintro e w8 ⟨rfl, b8⟩
          have hb8 := hbe.trans (b8.mono hbe.size)
          go_wp2_with fail
          go_ret
          exact ⟨rfl, hb8⟩
end Go.Proofs.YtcbamkgomnhdbaaGreatDoor
