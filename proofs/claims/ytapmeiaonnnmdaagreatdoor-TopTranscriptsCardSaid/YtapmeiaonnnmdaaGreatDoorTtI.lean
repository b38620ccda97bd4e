import Derived.Test.YtapmeiaonnnmdaaGreatDoorTtG
/- simulator.messages at the statement of the squares modulo 77. -/
namespace Go.Proofs.YtapmeiaonnnmdaaGreatDoor
open Go.RowKit Num
set_option maxRecDepth 20000
set_option linter.unusedVariables false
set_option maxHeartbeats 8000000 in
theorem messages_tt (g z : Int) (c : Nat) (a : StA) (ta : Option Addr) (tc : Nat) (S : StM) (hSe : ttS (enc (pw g)) ta tc = S) (ro : Option Addr) (rc : Nat) (w : World) (hS : SS w a S) (hri : IS w ro [(zb z, zs z)]) (hz : z.natAbs < 65536) (hc : c < 65536) :
    Calls Tryz.prog 26 #[.agg #[.slice a.ga S.G.length a.gc, .slice a.va S.V.length a.vc, .slice a.qa S.Q.length a.qc], .string (enc c), .slice ro 1 rc] w fun e w' => ∃ ao ac, e = .returned (.slice ao 1 ac) ∧ NS w' ao [enc (pw (z - c * g))] ∧ Below w.heap.size w w' := by
  have HF := Lib.hid (fun w' => from_z c w' (sN hc).le)
  have HN := Lib.hid (fun w' => neg_z (c : Int) w' (sZ (by omega)))
  have HE1 := Lib.hid (fun w' => gExp_any ⟨#[77]⟩ ⟨#[]⟩ (enc (pw g)) (zb (-(c : Int))) (zs (-(c : Int))) w')
  rw [gpS_pw g (-(c : Int)) (by omega), gpE_pw g (-(c : Int)) (by omega)] at HE1
  have HE2 := Lib.hid (fun w' => gExp_any ⟨#[77]⟩ ⟨#[]⟩ (enc (pw 1)) (zb 1) (zs 1) w')
  rw [gpS_pw 1 1 (by omega), gpE_pw 1 1 (by omega), ← enc4, show zb 1 = false by decide, show zs 1 = ⟨#[1]⟩ by decide +kernel, Int.mul_one, ← enc4] at HE2
  have HE3 := Lib.hid (fun w' => gExp_any ⟨#[77]⟩ ⟨#[]⟩ (enc (pw 1)) (zb z) (zs z) w')
  rw [gpS_pw 1 z hz, gpE_pw 1 z hz, ← enc4, Int.one_mul] at HE3
  have HMU := Lib.hid (fun w' => gMul_any ⟨#[77]⟩ ⟨#[]⟩ (enc (pw (g * -(c : Int)))) (enc (pw z)) w')
  rw [(gm_pw _ _).1, (gm_pw _ _).2, show g * -(c : Int) + z = z - c * g by rw [Int.mul_neg, Int.mul_comm]; omega] at HMU
  generalize enc (pw (z - c * g)) = F at HMU ⊢
  generalize enc (pw (g * -(c : Int))) = X1 at HE1 HMU
  generalize enc (pw z) = X2 at HE3 HMU
  have hb := (Below.refl _ w).alloc (Nat.le_refl _) (.cells #[.slice a.ga S.G.length a.gc, .slice a.va S.V.length a.vc, .slice a.qa S.Q.length a.qc] 49)
  have hX := SXB.new w a S
  have hSS := hS.below hb (Nat.le_refl _)
  have hrs := hri.keepL (cells_keepL hb (Nat.le_refl _))
  have hQ : S.Q.length = 1 := by rw [← hSe]; rfl
  have hX0 := hX.c0
  have hX2 := hX.c2
  have hq := hSS.q
  have hg := hSS.g
  have hG : S.G.length = 1 := by rw [← hSe]; rfl
  have hVl : S.V.length = 1 := by rw [← hSe]; rfl
  simp only [hQ, hG, hVl] at hb hrs hX0 hX2 hq hg ⊢
  rw [← hSe] at hq hg
  simp only [ttS] at hq hg
  obtain ⟨rb, rof, rfl, f1, f2⟩ := hrs 0 (by simp)
  simp only [Nat.zero_mul, Nat.add_zero, List.getElem_cons_zero] at f1 f2
  clear hS hri hrs hX hSS
  obtain ⟨ga, gc, va, vc, qa, qc⟩ := a
  simp only at hb f1 f2 hX0 hX2 hq hg ⊢
  obtain ⟨qb, qof, rfl, q0, q1, q2, hT⟩ := hq 0 (by simp)
  obtain ⟨gb, gof, rfl, g0, g1⟩ := hg 0 (by simp)
  simp only [Nat.zero_mul, Nat.add_zero, List.getElem_cons_zero, List.length_singleton] at q0 q1 q2 hT g0 g1
  obtain ⟨tb, tof, rfl, t0, t1, t2, t3⟩ := hT 0 (by simp)
  simp only [Nat.zero_mul, Nat.add_zero, List.getElem_cons_zero] at t0 t1 t2 t3
  clear hq hg hT hQ hG hVl hSe hz hc
  generalize enc (pw g) = TG at HE1 q1
  rw [zbN, zsN] at HF HN
  generalize enc c = cs at HF HN ⊢
  go_enter Tryz.func26, Tryz.ntmps26
  go_wp2_with fail
  generalize hW : World.alloc w _ = W at hb f1 f2 hX0 hX2 q0 q1 q2 g0 g1 t0 t1 t2 t3 ⊢
  clear hW
  have bQ := (Below.refl _ W).alloc (Nat.le_refl _) (.cells #[.int .i64 0, .string TG, .slice (some ⟨tb, tof, none⟩) 1 tc] 46)
  have bG := bQ.alloc bQ.size (.cells #[.string ⟨#[77]⟩, .string ⟨#[]⟩] 27)
  have hQB := (QB.new W 0 TG (.slice (some ⟨tb, tof, none⟩) 1 tc)).below ((Below.refl _ (W.alloc (.cells #[.int .i64 0, .string TG, .slice (some ⟨tb, tof, none⟩) 1 tc] 46))).alloc (Nat.le_refl _) (.cells #[.string ⟨#[77]⟩, .string ⟨#[]⟩] 27)) (QB.new W 0 TG _).lt
  have hGB := GB.new (W.alloc (.cells #[.int .i64 0, .string TG, .slice (some ⟨tb, tof, none⟩) 1 tc] 46)) ⟨#[77]⟩ ⟨#[]⟩
  rw [World.size_alloc] at hGB
  have y0 := (QB.new W 0 TG (.slice (some ⟨tb, tof, none⟩) 1 tc)).c0
  have x0 := cells_keepL bQ (Nat.le_refl _) _ _ hX0
  have g0' := cells_keepL bQ (Nat.le_refl _) _ _ g0
  have g1' := cells_keepL bQ (Nat.le_refl _) _ _ g1
  refine wp_loop_rounds 2 ?_
  rw [rounds_succ]
  go_wp2_with fail
  have f1' := cells_keepL bG (Nat.le_refl _) _ _ f1
  have f2' := cells_keepL bG (Nat.le_refl _) _ _ f2
  have u0 := cells_keepL bG (Nat.le_refl _) _ _ t0
  have u1 := cells_keepL bG (Nat.le_refl _) _ _ t1
  have u2 := cells_keepL bG (Nat.le_refl _) _ _ t2
  have u3 := cells_keepL bG (Nat.le_refl _) _ _ t3
  have hb1 := hb.trans (bG.mono hb.size)
  clear f1 f2 t0 t1 t2 t3 hb bQ bG y0 x0 g0 g1 g0' g1' q0 q1 q2 hX0 hX2
  generalize W.heap.size = q at hQB hGB ⊢
  generalize World.alloc (World.alloc W _) _ = W1 at hQB hGB f1' f2' u0 u1 u2 u3 hb1 ⊢
  have k0 := hGB.c0
  have k1 := hGB.c1
  have k2 := hQB.c1
  have k3 := hQB.c2
  go_cut [11, 12] from 30 to 39 (fun v11 v12 wc => v11 = .string X1 ∧ v12 = .int .i64 0 ∧ Below W1.heap.size W1 wc)
  case first =>
    have HMK := Lib.hid (fun w' (hw : Below W1.heap.size W1 w') => (⟨cells_keepL hw (Nat.le_refl _) _ _ k0, cells_keepL hw (Nat.le_refl _) _ _ k1, cells_keepL hw (Nat.le_refl _) _ _ k2, hw⟩ : w'.cell? ⟨q + 1, 0, none⟩ = some (.string ⟨#[77]⟩) ∧ w'.cell? ⟨q + 1, 1, none⟩ = some (.string ⟨#[]⟩) ∧ w'.cell? ⟨q, 1, none⟩ = some (.string TG) ∧ Below W1.heap.size W1 w'))
    clear HE2 HE3 HMU
    go_region_held3 (fun w' => w'.cell? ⟨q + 1, 0, none⟩ = some (.string ⟨#[77]⟩) ∧ w'.cell? ⟨q + 1, 1, none⟩ = some (.string ⟨#[]⟩) ∧ w'.cell? ⟨q, 1, none⟩ = some (.string TG) ∧ Below W1.heap.size W1 w')
      (first | assumption | (refine HMK.out _ ?_; first | assumption | with_reducible exact (Below.refl _ _).drew | with_reducible exact hbl | with_reducible exact hbm | with_reducible exact hbn))
      (first
        | (go_at_call 25; (with_reducible refine (HF.out _).mono ?_); rintro e wn ⟨rfl, bn⟩; have hbn : Below W1.heap.size W1 wn := (Below.refl _ W1).drew.trans (bn.mono (Nat.le_refl _)))
        | (go_at_call 53; (with_reducible refine (HN.out _).mono ?_); rintro e wm ⟨rfl, bm⟩; have hbm : Below W1.heap.size W1 wm := hbn.trans (bm.mono hbn.size))
        | (go_at_call 5; (with_reducible refine (HE1.out _).mono ?_); rintro e wl ⟨rfl, bl⟩; have hbl : Below W1.heap.size W1 wl := hbm.trans (bl.mono hbm.size)))
    go_wp2_with fail
    go_meet
    exact ⟨rfl, rfl, hbl⟩
  case rest =>
    obtain ⟨rfl, rfl, hBc⟩ := hcut
    rename World => w2
    replace hb1 := hb1.trans (hBc.mono hb1.size)
    replace f1' := cells_keepL hBc (Nat.le_refl _) _ _ f1'
    replace f2' := cells_keepL hBc (Nat.le_refl _) _ _ f2'
    replace u0 := cells_keepL hBc (Nat.le_refl _) _ _ u0
    replace u1 := cells_keepL hBc (Nat.le_refl _) _ _ u1
    replace u2 := cells_keepL hBc (Nat.le_refl _) _ _ u2
    replace u3 := cells_keepL hBc (Nat.le_refl _) _ _ u3
    replace k0 := cells_keepL hBc (Nat.le_refl _) _ _ k0
    replace k1 := cells_keepL hBc (Nat.le_refl _) _ _ k1
    replace k3 := cells_keepL hBc (Nat.le_refl _) _ _ k3
    clear k2 hBc hQB hGB HF HN HE1
    have bT := (Below.refl _ w2).alloc (Nat.le_refl _) (.cells #[.string ⟨#[4]⟩, .int .i64 0, .bool false, .string ⟨#[1]⟩] 43)
    have hTm := TmB.new w2 ⟨#[4]⟩ 0 false ⟨#[1]⟩
    have m0 := hTm.c0
    have m1 := hTm.c1
    have m2 := hTm.c2
    have m3 := hTm.c3
    have n0 := cells_keepL bT (Nat.le_refl _) _ _ k0
    have n1 := cells_keepL bT (Nat.le_refl _) _ _ k1
    go_wp2_with fail
    refine wp_loop_rounds 2 ?_
    rw [rounds_succ]
    go_wp2_with fail
    replace hb1 := hb1.trans (bT.mono hb1.size)
    replace f1' := cells_keepL bT (Nat.le_refl _) _ _ f1'
    replace f2' := cells_keepL bT (Nat.le_refl _) _ _ f2'
    clear u0 u1 u2 u3 k0 k1 k3 bT hTm
    generalize w2.heap.size = p at m0 m1 m2 m3 ⊢
    generalize World.alloc w2 _ = w3 at hb1 f1' f2' m0 m1 m2 m3 n0 n1 ⊢
    refine (HE2.out _).mono ?_; rintro e w4 ⟨rfl, b4⟩
    replace hb1 := hb1.trans (b4.mono hb1.size)
    replace f1' := cells_keepL b4 (Nat.le_refl _) _ _ f1'
    replace f2' := cells_keepL b4 (Nat.le_refl _) _ _ f2'
    replace m1 := cells_keepL b4 (Nat.le_refl _) _ _ m1
    replace n0 := cells_keepL b4 (Nat.le_refl _) _ _ n0
    replace n1 := cells_keepL b4 (Nat.le_refl _) _ _ n1
    clear m0 m2 m3 b4 HE2
    go_wp2_with fail
    go_cut [15] from 56 to 66 (fun v15 wc => v15 = .string X2 ∧ Below w4.heap.size w4 wc)
    case first =>
      have HMK := Lib.hid (fun w' (hw : Below w4.heap.size w4 w') => (⟨cells_keepL hw (Nat.le_refl _) _ _ n0, cells_keepL hw (Nat.le_refl _) _ _ n1, cells_keepL hw (Nat.le_refl _) _ _ m1, cells_keepL hw (Nat.le_refl _) _ _ f1', cells_keepL hw (Nat.le_refl _) _ _ f2', hw⟩ : w'.cell? ⟨q + 1, 0, none⟩ = some (.string ⟨#[77]⟩) ∧ w'.cell? ⟨q + 1, 1, none⟩ = some (.string ⟨#[]⟩) ∧ w'.cell? ⟨p, 1, none⟩ = some (.int .i64 0) ∧ w'.cell? ⟨rb, rof, none⟩ = some (.bool (zb z)) ∧ w'.cell? ⟨rb, rof + 1, none⟩ = some (.string (zs z)) ∧ Below w4.heap.size w4 w'))
      clear HMU
      go_region_held3 (fun w' => w'.cell? ⟨q + 1, 0, none⟩ = some (.string ⟨#[77]⟩) ∧ w'.cell? ⟨q + 1, 1, none⟩ = some (.string ⟨#[]⟩) ∧ w'.cell? ⟨p, 1, none⟩ = some (.int .i64 0) ∧ w'.cell? ⟨rb, rof, none⟩ = some (.bool (zb z)) ∧ w'.cell? ⟨rb, rof + 1, none⟩ = some (.string (zs z)) ∧ Below w4.heap.size w4 w')
        (first | assumption | (refine HMK.out _ ?_; first | assumption | with_reducible exact (Below.refl _ _).drew | with_reducible exact hbl))
        ((go_at_call 5; (with_reducible refine (HE3.out _).mono ?_); rintro e wl ⟨rfl, bl⟩; have hbl : Below w4.heap.size w4 wl := (Below.refl _ w4).drew.trans (bl.mono (Nat.le_refl _))))
      go_wp2_with fail
      go_meet
      exact ⟨rfl, hbl⟩
    case rest =>
      obtain ⟨rfl, hBc⟩ := hcut
      rename World => w5
      replace hb1 := hb1.trans (hBc.mono hb1.size)
      replace n0 := cells_keepL hBc (Nat.le_refl _) _ _ n0
      replace n1 := cells_keepL hBc (Nat.le_refl _) _ _ n1
      clear f1' f2' m1 hBc HE3
      go_wp2_with fail
      refine (HMU.out _).mono ?_; rintro e w6 ⟨rfl, b6⟩
      replace hb1 := hb1.trans (b6.mono hb1.size)
      clear b6 n0 n1 HMU
      go_wp2_with fail
      rw [rounds_succ]
      have hO : (w6.alloc (.cells #[.string F] 25)).ownsRow (w6.heap.size + 1) 25 1 (.slice none 0 0) 0 [] := ⟨rfl, .inl ⟨rfl, rfl⟩⟩
      have hK : w6.heap.size + 1 ≤ (w6.alloc (.cells #[.string F] 25)).heap.size := by simp
      have hNC := (SB.new w6 F).c
      have hb7 := hb1.alloc hb1.size (.cells #[.string F] 25)
      obtain ⟨i0, hi, hz0, hz1, hz2⟩ := info_parts info_nat
      go_wp2_with (at_builtin; refine wpList_append_own _ rfl (.tmp 75) (.tmp 77) 54 rfl (w6.heap.size + 1) 25 i0 (.string ⟨#[]⟩) 1 16 Tryz.underlying54 hi hz0 hz1 hz2 rfl (by decide) (.slice none 0 0) 0 [] rfl hO ⟨w6.heap.size, 0, none⟩ 1 1 [.string F] rfl rfl (oneL hNC) (by simp [Value.oneCell']) (by unfold maxLen; omega) (by omega) hK ?_; intro v1 w9 hown hgrow _)
      have hb9 : Below (w6.heap.size + 1) (w6.alloc (.cells #[.string F] 25)) w9 := (Below.refl _ _).grown hgrow (by simp) (fun k e => by simp [Value.ownBlock] at e)
      have hbt := hb7.trans (hb9.mono (Nat.le_trans hb1.size (Nat.le_succ _)))
      obtain ⟨ao, ac, rfl, hIS⟩ := own_NS (L := [F]) hown
      clear hown hgrow hb9 hO hb7
      rw [rounds_succ]
      go_wp2_with fail
      go_ret
      exact ⟨_, _, rfl, hIS, hbt⟩
end Go.Proofs.YtapmeiaonnnmdaaGreatDoor

/- simulator: tape, the closure of Simulate, drawn, at a statement with one variable. -/
namespace Go.Proofs.YtapmeiaonnnmdaaGreatDoor
open Go.RowKit Num
set_option maxRecDepth 20000
set_option linter.unusedVariables false
theorem stape_any (vo : Option Addr) (n c : Nat) (L : List ByteArray) (w : World) (hL : NS w vo L) (hn : L.length = n) (h1 : n ≤ maxLen) (hv : L.all validB = true) :
    Calls Tryz.prog 19 #[.agg #[.slice vo n c, .string ⟨#[]⟩, .int .i64 0]] w fun e w' => e = .returned (.bool true) ∧ Below w.heap.size w w' := by
  have hany : L.any (fun x => !validB x) = false := by
    rw [List.any_eq_false]
    intro x hx
    rw [List.all_eq_true.1 hv x hx]
    decide
  have hb := (Below.refl _ w).alloc (Nat.le_refl _) (.cells #[.slice vo n c, .string ⟨#[]⟩, .int .i64 0] 63)
  have hP := TPB.new w (.slice vo n c) (.string ⟨#[]⟩) (.int .i64 0)
  have H := Lib.hid (fun w' (hb : Below w.heap.size w w') => con_tp vo c n L (fun x => !validB x) w' (hL.keepL (cells_keepL hb (Nat.le_refl _))) hn h1 (fun wr _ x _ => tp1_any x wr))
  rw [hany] at H
  clear hL hn hv hany
  have p0 := hP.c0
  have p2 := hP.c2
  go_enter Tryz.func19, Tryz.ntmps19
  go_wp2_with fail
  refine (H.out _ hb).mono ?_; rintro e w1 ⟨rfl, b1⟩
  have hb1 := hb.trans (b1.mono hb.size)
  have q2 := cells_keepL b1 (Nat.le_refl _) _ _ p2
  go_wp2_with fail
  go_ret
  exact ⟨rfl, hb1⟩
/-- the world behind a boxed tape, an integer and a tape -/
theorem box_tit (w : World) (v0 v1 v2 : Value) : ∃ W, ((w.alloc (.cells #[v0, v1, v2] 63)).alloc (.cells #[.bool false, .string ⟨#[]⟩] 36)).alloc (.cells #[.slice none 0 0, .string ⟨#[]⟩, .int .i64 0] 63) = W ∧
    TPB W w.heap.size v0 v1 v2 ∧ RBox W (w.heap.size + 1) ∧ TPB W (w.heap.size + 1 + 1) (.slice none 0 0) (.string ⟨#[]⟩) (.int .i64 0) ∧ Below w.heap.size w W := by
  have b1 := (Below.refl _ w).alloc (Nat.le_refl _) (.cells #[v0, v1, v2] 63)
  have b2 := b1.alloc b1.size (.cells #[.bool false, .string ⟨#[]⟩] 36)
  have b3 := b2.alloc b2.size (.cells #[.slice none 0 0, .string ⟨#[]⟩, .int .i64 0] 63)
  have h1 := TPB.new w v0 v1 v2
  have h2 := RBox.new (w.alloc (.cells #[v0, v1, v2] 63))
  have h3 := TPB.new ((w.alloc (.cells #[v0, v1, v2] 63)).alloc (.cells #[.bool false, .string ⟨#[]⟩] 36)) (.slice none 0 0) (.string ⟨#[]⟩) (.int .i64 0)
  have k1 := (Below.refl _ (w.alloc (.cells #[v0, v1, v2] 63))).alloc (Nat.le_refl _) (.cells #[.bool false, .string ⟨#[]⟩] 36)
  have k2 := (Below.refl _ ((w.alloc (.cells #[v0, v1, v2] 63)).alloc (.cells #[.bool false, .string ⟨#[]⟩] 36))).alloc (Nat.le_refl _) (.cells #[.slice none 0 0, .string ⟨#[]⟩, .int .i64 0] 63)
  have g1 := (h1.below k1 h1.lt).below k2 (h1.below k1 h1.lt).lt
  have g2 := h2.below k2 h2.lt
  simp only [World.size_alloc] at g1 g2 h3
  exact ⟨_, rfl, g1, g2, h3, b3⟩
set_option maxHeartbeats 4000000 in
theorem sim1_one (ps pb : Nat) (va bo : Option Addr) (vc bc : Nat) (b : ByteArray) (vo : Option Addr) (c x m : Nat) (w : World) (hV : w.cell? ⟨ps, 1, none⟩ = some (.slice va 1 vc)) (hVS : NS w va [b]) (he : emB b = false) (hB : w.cell? ⟨pb, 0, none⟩ = some (.slice bo 1 bc)) (hBS : NS w bo [enc m]) (hN : NS w vo [enc x]) (hm : 1 ≤ m) (hm1 : m ≤ 10000) (hlt : x < 2 * m - 1) :
    Calls Tryz.prog 22 #[.int .i64 0, .agg #[.slice vo 1 c, .string ⟨#[]⟩, .int .i64 0], .pointer (some ⟨ps, 0, none⟩), .pointer (some ⟨pb, 0, none⟩)] w fun e w' => ∃ no nc, e = .returned (.tuple #[.agg #[.bool (zb ((x : Int) - ((m : Int) - 1))), .string (zs ((x : Int) - ((m : Int) - 1)))], .agg #[.slice no 1 nc, .string ⟨#[]⟩, .int .i64 1], .int .i64 0]) ∧ Below w.heap.size w w' := by
  have HSG := Lib.hid (fun w' (hb : Below w.heap.size w w') => signed_any vo c x m w' (hN.keepL (cells_keepL hb (Nat.le_refl _))) hm hm1 hlt)
  generalize zb ((x : Int) - ((m : Int) - 1)) = zg at HSG ⊢
  generalize zs ((x : Int) - ((m : Int) - 1)) = ze at HSG ⊢
  generalize enc m = M at HSG hBS
  obtain ⟨W, hW, hP, hI, hR, hb⟩ := box_tit w (.slice vo 1 c) (.string ⟨#[]⟩) (.int .i64 0)
  obtain ⟨vb, vof, rfl, e0⟩ := hVS 0 (by simp)
  obtain ⟨bb, bof, rfl, e1⟩ := hBS 0 (by simp)
  simp only [Nat.add_zero, List.getElem_cons_zero] at e0 e1
  have e0' := cells_keepL hb (Nat.le_refl _) _ _ e0
  have e1' := cells_keepL hb (Nat.le_refl _) _ _ e1
  have hV' := cells_keepL hb (Nat.le_refl _) _ _ hV
  have hB' := cells_keepL hb (Nat.le_refl _) _ _ hB
  obtain ⟨m0, m1, m2⟩ : emB b = false ∧ (b.toList = [] → False) ∧ b.toList.isEmpty = false := by
    rcases em_cases b with ⟨h, _⟩ | h
    · rw [he] at h; cases h
    · exact h
  have p0 := hP.c0
  have p1 := hP.c1
  have p2 := hP.c2
  have hbd := hb.drew
  clear hN hm hm1 hlt hVS hBS hV hB e0 e1 he m0
  go_enter Tryz.func22, Tryz.ntmps22
  go_wp2_with fail
  clear hW m1 m2 e0' hV'
  go_region_with ((go_at_call 23; (with_reducible refine (HSG.out _ hbd).mono ?_); rintro e w3 ⟨no, nc, rfl, b3⟩; have hI3 := RBox.below (W := W.drew) hI b3 hI.lt; have hR3 := TPB.below (w := W.drew) hR b3 hR.lt; have hb3 := hbd.trans (b3.mono hbd.size); have z0 := hI3.c0; have z1 := hI3.c1; have z2 := hI3.f0; have z3 := hI3.f1; have y0 := hR3.c0; have y1 := hR3.c1; have y2 := hR3.c2; have y3 := hR3.f 0; have y4 := hR3.f 1; have y5 := hR3.f 2))
  all_goals
    have hI4 := put2 (v0 := .bool zg) (v1 := .string ze) hI3
    have hR4 : TPB ((w3.setCell ⟨w.heap.size + 1, 0, none⟩ (.bool zg)).setCell ⟨w.heap.size + 1, 1, none⟩ (.string ze)) (w.heap.size + 1 + 1) _ _ _ := (put2_other w3 (w.heap.size + 1) _ _ (w.heap.size + 1 + 1) (by omega)).trans hR3
    have hR5 := hR4.put (v0 := .slice no 1 nc) (v1 := .string ⟨#[]⟩) (v2 := .int .i64 1)
    have hI5 := (put3_other _ (w.heap.size + 1 + 1) (.slice no 1 nc) (.string ⟨#[]⟩) (.int .i64 1) (w.heap.size + 1) (by omega)).trans hI4
    have hb4 := (hb3.setCell (p := ⟨w.heap.size + 1, 0, none⟩) (by simp) (.bool zg)).setCell (p := ⟨w.heap.size + 1, 1, none⟩) (by simp) (.string ze)
    have hb5 := ((hb4.setCell (p := ⟨w.heap.size + 1 + 1, 0, none⟩) (by simp; omega) (.slice no 1 nc)).setCell (p := ⟨w.heap.size + 1 + 1, 1, none⟩) (by simp; omega) (.string ⟨#[]⟩)).setCell (p := ⟨w.heap.size + 1 + 1, 2, none⟩) (by simp; omega) (.int .i64 1)
    clear HSG hI hR hP hI3 hR3 hb3 hI4 hR4 hb4
    go_wp2_with fail
    exact bodyPost_itt rfl rfl rfl rfl hI5 hR5 rfl ⟨no, nc, rfl, hb5⟩
set_option maxHeartbeats 4000000 in
theorem drawn_one (a : StA) (S : StM) (b : ByteArray) (vo : Option Addr) (c : Nat) (zg : Bool) (ze : ByteArray) (ps pb : Nat) (w : World) (hS : SS w a S) (hV : S.V = [b])
    (HF : ∀ w', Below w.heap.size w w' → Calls Tryz.prog 22 #[.int .i64 0, .agg #[.slice vo 1 c, .string ⟨#[]⟩, .int .i64 0], .pointer (some ⟨ps, 0, none⟩), .pointer (some ⟨pb, 0, none⟩)] w' fun e w'' => ∃ no nc, e = .returned (.tuple #[.agg #[.bool zg, .string ze], .agg #[.slice no 1 nc, .string ⟨#[]⟩, .int .i64 1], .int .i64 0]) ∧ Below w'.heap.size w' w'') :
    Calls Tryz.prog 21 #[.agg #[.slice a.ga S.G.length a.gc, .slice a.va S.V.length a.vc, .slice a.qa S.Q.length a.qc], .agg #[.slice vo 1 c, .string ⟨#[]⟩, .int .i64 0], .func (.func 22) #[] #[.pointer (some ⟨ps, 0, none⟩), .pointer (some ⟨pb, 0, none⟩)]] w fun e w' => ∃ ao ac no nc, e = .returned (.tuple #[.slice ao 1 ac, .agg #[.slice no 1 nc, .string ⟨#[]⟩, .int .i64 1], .int .i64 0]) ∧ IS w' ao [(zg, ze)] ∧ Below w.heap.size w w' := by
  have HFF := Lib.hid HF
  obtain ⟨W, hW, hX, hP, hR, hb⟩ := box_st2 w a S (.slice vo 1 c) (.string ⟨#[]⟩) (.int .i64 0)
  have hn : S.V.length = 1 := by rw [hV]; rfl
  have hX1 := hX.c1
  have p0 := hP.c0
  have p1 := hP.c1
  have p2 := hP.c2
  simp only [hn] at hW hX1 ⊢
  obtain ⟨ga, gc, va, vc, qa, qc⟩ := a
  obtain ⟨ng, hng⟩ : ∃ n, S.G.length = n := ⟨_, rfl⟩
  obtain ⟨nqq, hnq⟩ : ∃ n, S.Q.length = n := ⟨_, rfl⟩
  simp only [hng, hnq] at hW hX1 ⊢
  clear hng hnq hn hX hS hV HF
  go_enter Tryz.func21, Tryz.ntmps21
  go_wp2_with fail
  clear hW
  refine wp_loop_rounds 2 ?_
  rw [rounds_succ]
  go_wp2_with fail
  refine (HFF.out _ hb).mono ?_; rintro e w2 ⟨no, nc, rfl, b2⟩
  replace hP := hP.below b2 hP.lt
  replace hR := hR.below b2 hR.lt
  replace hb := hb.trans (b2.mono hb.size)
  clear p0 p1 p2 HFF b2 hX1
  have bI := (Below.refl _ w2).alloc (Nat.le_refl _) (.cells #[.bool zg, .string ze] 36)
  have bT := bI.alloc bI.size (.cells #[.slice no 1 nc, .string ⟨#[]⟩, .int .i64 1] 63)
  go_wp2_with fail
  have hIB := (IBL.new w2 zg ze).alloc (.cells #[.slice no 1 nc, .string ⟨#[]⟩, .int .i64 1] 63)
  have hTB := TPB.new (w2.alloc (.cells #[.bool zg, .string ze] 36)) (.slice no 1 nc) (.string ⟨#[]⟩) (.int .i64 1)
  rw [World.size_alloc] at hTB
  have hP3 := hP.below bT hP.lt
  have hR3 := hR.below bT hR.lt
  have hb3 := hb.trans (bT.mono hb.size)
  have hlp : w.heap.size + 1 + 1 < w2.heap.size := hR.lt
  clear hP hR hb bI bT
  generalize w2.heap.size = p at hIB hTB hlp ⊢
  generalize World.alloc (World.alloc w2 _) _ = w3 at hIB hTB hP3 hR3 hb3 ⊢
  refine wp_region_held_drew (S := fun w' => IBL w' p zg ze ∧ TPB w' (p + 1) (.slice no 1 nc) (.string ⟨#[]⟩) (.int .i64 1)) (by kernel_rfl) ⟨hIB, hTB⟩ (fun hS0 => ?_)
  refine tkT 0 32 (.slice none 0 0) rfl rfl (by kernel_rfl) (fun _ _ _ _ _ h => h) (.inl ⟨by rfl, fun w' hSw => (by go_simp)⟩) (by assumption) ?_
  try simp only [put9T, List.set]
  refine tkT 1 33 (.agg #[.bool zg, .string ze]) rfl rfl (by kernel_rfl) (fun _ _ _ _ _ h => h) (.inl ⟨by rfl, fun w' hSw => (by obtain ⟨g1, g2⟩ := hSw; have z0 := g1.c0; have z1 := g1.c1; go_simp)⟩) (by assumption) ?_
  try simp only [put9T, List.set]
  refine tkT 4 36 (.agg #[.slice no 1 nc, .string ⟨#[]⟩, .int .i64 1]) rfl rfl (by kernel_rfl) (fun _ _ _ _ _ h => h) (.inl ⟨by rfl, fun w' hSw => (by obtain ⟨g1, g2⟩ := hSw; have z0 := g2.c0; have z1 := g2.c1; have z2 := g2.c2; go_simp)⟩) (by assumption) ?_
  try simp only [put9T, List.set]
  replace hb3 : Below w.heap.size w w3.drew := hb3.drew
  replace hP3 : TPB w3.drew (w.heap.size + 1) _ _ _ := hP3
  replace hR3 : TPB w3.drew (w.heap.size + 1 + 1) _ _ _ := hR3
  clear hIB hTB
  generalize w3.drew = w4 at hS0 hP3 hR3 hb3 ⊢
  refine wpAnyH_ready (rs := [2]) (by kernel_rfl) (by simp) ?_
  refine AllReadyH.cons rfl (fun K hK => ?_) AllReadyH.nil
  rw [if_pos (by rfl)]
  go_simp
  have kb := (Below.refl _ w4).alloc (Nat.le_refl _) (.cells #[.bool zg, .string ze] 36)
  have hN5 := IBL.new w4 zg ze
  have hS5 : IBL _ p zg ze ∧ TPB _ (p + 1) (.slice no 1 nc) (.string ⟨#[]⟩) (.int .i64 1) := ⟨hS0.1.below kb hS0.1.lt, hS0.2.below kb hS0.2.lt⟩
  replace hP3 := hP3.below kb hP3.lt
  replace hR3 := hR3.below kb hR3.lt
  have hb5 := hb3.trans (kb.mono hb3.size)
  have hO : (w4.alloc (.cells #[.bool zg, .string ze] 36)).ownsRow (w4.heap.size + 1) 36 2 (.slice none 0 0) 0 (icl []) := ⟨rfl, .inl ⟨rfl, rfl⟩⟩
  have hKs : w4.heap.size + 1 ≤ (w4.alloc (.cells #[.bool zg, .string ze] 36)).heap.size := by simp
  have hl5 : w.heap.size + 1 + 1 < w4.heap.size := by have := hS0.1.lt; omega
  refine hK.out _ _ hS5 (fun hS' => ?_)
  clear hK hS0 hb3 kb hS'
  try simp only [put9T, List.set]
  generalize w4.heap.size = r at hN5 hO hKs hl5 ⊢
  generalize World.alloc w4 _ = w5 at hN5 hS5 hP3 hR3 hb5 hO hKs ⊢
  obtain ⟨i1, hy, hyy0, hyy1, hyy2⟩ := info_intL
  refine wpAnyH_ready (rs := [3]) (by kernel_rfl) (by simp) ?_
  refine AllReadyH.cons rfl (fun K hK => ?_) AllReadyH.nil
  rw [if_pos (by rfl)]
  refine wp_append_own _ (.tmp 32) (.tmp 34) 59 (by rfl) (r + 1) 36 i1 (.agg #[.bool false, .string ⟨#[]⟩]) 2 24 Tryz.underlying59 hy hyy0 hyy1 hyy2 rfl (by decide) (.slice none 0 0) 0 (icl []) (by rfl) hO ⟨r, 0, none⟩ 1 1 [.bool zg, .string ze] (by rfl) rfl (two_cellV hN5.c0 hN5.c1) (by simp [Value.oneCell']) (by unfold maxLen; omega) (by omega) hKs ?_
  intro v1 w6 hown hgrow _
  have kb : Below w5.heap.size w5 w6 := (Below.refl _ _).grown hgrow (Nat.le_refl _) (fun k e => by simp [Value.ownBlock] at e)
  have hS6 : IBL _ p zg ze ∧ TPB _ (p + 1) (.slice no 1 nc) (.string ⟨#[]⟩) (.int .i64 1) := ⟨hS5.1.below kb hS5.1.lt, hS5.2.below kb hS5.2.lt⟩
  replace hP3 := hP3.below kb hP3.lt
  replace hR3 := hR3.below kb hR3.lt
  replace hb5 := hb5.trans (kb.mono hb5.size)
  obtain ⟨ao, ac, rfl, hIS⟩ := own_IS (L := [(zg, ze)]) hown
  have hge : ∀ b off, ao = some ⟨b, off, none⟩ → r + 1 ≤ b := fun b off e => by
    subst e
    exact (own_ge hown b rfl).1
  refine hK.out _ _ hS6 (fun hS' => ?_)
  clear hK hS5 kb hown hgrow hO hN5 hKs
  try simp only [put9T, List.set]
  refine tkT 5 9 (.slice ao 1 ac) rfl rfl (by kernel_rfl) (fun _ _ _ _ _ h => h) (.inl ⟨by rfl, fun w' hSw => (by go_simp)⟩) (by assumption) ?_
  try simp only [put9T, List.set]
  have p0 := hP3.c0
  have p1 := hP3.c1
  have p2 := hP3.c2
  have p3 := hP3.f 0
  have p4 := hP3.f 1
  have p5 := hP3.f 2
  refine wpAnyH_ready (rs := [6]) (by kernel_rfl) (by simp) ?_
  refine AllReadyH.cons rfl (fun K hK => ?_) AllReadyH.nil
  rw [if_pos (by rfl)]
  go_simp
  have hlp2 : p < w6.heap.size := hS6.1.lt
  have hS7 : IBL _ p zg ze ∧ TPB _ (p + 1) (.slice no 1 nc) (.string ⟨#[]⟩) (.int .i64 1) := ⟨(put3_other w6 (w.heap.size + 1) (.slice no 1 nc) (.string ⟨#[]⟩) (.int .i64 1) p (by omega)).trans hS6.1, (put3_other w6 (w.heap.size + 1) (.slice no 1 nc) (.string ⟨#[]⟩) (.int .i64 1) (p + 1) (by omega)).trans hS6.2⟩
  have hP7 := hP3.put (v0 := .slice no 1 nc) (v1 := .string ⟨#[]⟩) (v2 := .int .i64 1)
  have hR7 : TPB _ (w.heap.size + 1 + 1) _ _ _ := (put3_other w6 (w.heap.size + 1) (.slice no 1 nc) (.string ⟨#[]⟩) (.int .i64 1) (w.heap.size + 1 + 1) (by omega)).trans hR3
  have hI7 := hIS.heap (w' := ((w6.setCell ⟨w.heap.size + 1, 0, none⟩ (.slice no 1 nc)).setCell ⟨w.heap.size + 1, 1, none⟩ (.string ⟨#[]⟩)).setCell ⟨w.heap.size + 1, 2, none⟩ (.int .i64 1)) (fun b off e => put3_other w6 (w.heap.size + 1) _ _ _ b (by have := hge b off e; omega))
  have hb7 := ((hb5.setCell (p := ⟨w.heap.size + 1, 0, none⟩) (by simp) (.slice no 1 nc)).setCell (p := ⟨w.heap.size + 1, 1, none⟩) (by simp) (.string ⟨#[]⟩)).setCell (p := ⟨w.heap.size + 1, 2, none⟩) (by simp) (.int .i64 1)
  refine hK.out _ _ hS7 (fun hS' => ?_)
  clear hK hS6 hS7 hS' hP3 hR3 hIS hb5 p0 p1 p2 p3 p4 p5
  try simp only [put9T, List.set]
  refine wpAnyH_done (by kernel_rfl) ?_ _
  generalize World.setCell (World.setCell (World.setCell w6 _ _) _ _) _ _ = w7 at hP7 hR7 hI7 hb7 ⊢
  have p0 := hP7.c0
  have p1 := hP7.c1
  have p2 := hP7.c2
  have r0 := hR7.c0
  have r1 := hR7.c1
  have r2 := hR7.c2
  have r3 := hR7.f 0
  have r4 := hR7.f 1
  have r5 := hR7.f 2
  go_wp2_with fail
  rw [rounds_succ]
  go_wp2_with fail
  go_region
  go_wp2_with fail
  have hR9 := hR7.put (v0 := .slice no 1 nc) (v1 := .string ⟨#[]⟩) (v2 := .int .i64 1)
  have hI9 := hI7.heap (w' := ((w7.setCell ⟨w.heap.size + 1 + 1, 0, none⟩ (.slice no 1 nc)).setCell ⟨w.heap.size + 1 + 1, 1, none⟩ (.string ⟨#[]⟩)).setCell ⟨w.heap.size + 1 + 1, 2, none⟩ (.int .i64 1)) (fun b off e => put3_other w7 (w.heap.size + 1 + 1) _ _ _ b (by have := hge b off e; omega))
  have hb9 := ((hb7.setCell (p := ⟨w.heap.size + 1 + 1, 0, none⟩) (by simp; omega) (.slice no 1 nc)).setCell (p := ⟨w.heap.size + 1 + 1, 1, none⟩) (by simp; omega) (.string ⟨#[]⟩)).setCell (p := ⟨w.heap.size + 1 + 1, 2, none⟩) (by simp; omega) (.int .i64 1)
  refine bodyPost_nt rfl rfl rfl rfl hR9 rfl ?_
  exact ⟨_, _, _, _, rfl, hI9, hb9.drew⟩
end Go.Proofs.YtapmeiaonnnmdaaGreatDoor

/- simulator.Simulate at the statement of the squares modulo 77. -/
namespace Go.Proofs.YtapmeiaonnnmdaaGreatDoor
open Go.RowKit Num
set_option maxRecDepth 20000
set_option linter.unusedVariables false
theorem cell_ne {w : World} {p b off : Nat} {cs : Array Value} {t : TypeId} {fr : Nat × Nat} {v : Value} (hp : w.heap[p]? = some (.cells cs t fr)) (hc : w.cell? ⟨b, off, none⟩ = some v) (hv : ∀ u ∈ cs.toList, u ≠ v) : b ≠ p := fun e => by
  subst e
  rw [Lib.cell_of_heap hp] at hc
  exact hv v (by rw [Array.mem_toList_iff]; exact Array.mem_of_getElem? hc) rfl
theorem IS.ne {w : World} {ao : Option Addr} {l : List (Bool × ByteArray)} {p : Nat} {cs : Array Value} {t : TypeId} {fr : Nat × Nat} (h : IS w ao l) (hl : 0 < l.length) (hp : w.heap[p]? = some (.cells cs t fr)) (hv : ∀ u ∈ cs.toList, ∀ g, u ≠ .bool g) : ∀ b off, ao = some ⟨b, off, none⟩ → b ≠ p := fun b off e => by
  obtain ⟨b', off', e', c0, _⟩ := h 0 hl
  rw [e] at e'
  cases e'
  exact cell_ne hp c0 (fun u hu => hv u hu _)
theorem NS.ne {w : World} {ao : Option Addr} {s : ByteArray} {p : Nat} {cs : Array Value} {t : TypeId} {fr : Nat × Nat} (h : NS w ao [s]) (hp : w.heap[p]? = some (.cells cs t fr)) (hv : ∀ u ∈ cs.toList, u ≠ .string s) : ∀ b off, ao = some ⟨b, off, none⟩ → b ≠ p := fun b off e => by
  obtain ⟨b', off', e', c0⟩ := h 0 (by simp)
  rw [e] at e'
  cases e'
  exact cell_ne hp c0 hv
/-- a proof in a variable -/
def PFB (w : World) (b : Nat) (v0 v1 v2 : Value) : Prop := w.heap[b]? = some (.cells #[v0, v1, v2] 61 (0, 0))
section
variable {w w' : World} {b K : Nat} {v0 v1 v2 : Value}
theorem PFB.lt (h : PFB w b v0 v1 v2) : b < w.heap.size := (Array.getElem?_eq_some_iff.1 h).1
theorem PFB.c0 (h : PFB w b v0 v1 v2) : w.cell? ⟨b, 0, none⟩ = some v0 := by rw [Lib.cell_of_heap h]; rfl
theorem PFB.c1 (h : PFB w b v0 v1 v2) : w.cell? ⟨b, 1, none⟩ = some v1 := by rw [Lib.cell_of_heap h]; rfl
theorem PFB.c2 (h : PFB w b v0 v1 v2) : w.cell? ⟨b, 2, none⟩ = some v2 := by rw [Lib.cell_of_heap h]; rfl
theorem PFB.f (h : PFB w b v0 v1 v2) (i : Nat) : w.frozen? ⟨b, i, none⟩ = false := Lib.frozen_of_heap h i
theorem PFB.below (h : PFB w b v0 v1 v2) (hb : Below K w w') (hK : b < K) : PFB w' b v0 v1 v2 := (hb.block b hK).trans h
theorem PFB.new (w : World) (v0 v1 v2 : Value) : PFB (w.alloc (.cells #[v0, v1, v2] 61)) w.heap.size v0 v1 v2 := heap_alloc_new w _
theorem PFB.put {a0 a1 a2 : Value} (h : PFB w b a0 a1 a2) (v0 v1 v2 : Value) : PFB (((w.setCell ⟨b, 0, none⟩ v0).setCell ⟨b, 1, none⟩ v1).setCell ⟨b, 2, none⟩ v2) b v0 v1 v2 := put1 (put1 (put1 h))
end
theorem info_proof : (Tryz.prog.info? 61).map (·.size) = some 3 := by kernel_rfl
theorem bodyPost_ptt {fn : Func} {R : Ending → World → Prop} {p q u : Tmp} {b c : Nat} {a : Act} {W : World} {v0 v1 v2 i0 i1 i2 vu : Value} (h : fn.results = #[.cell p 61, .cell q 63, .tmp u]) (hp : a.tmps.getD p undef = .pointer (some ⟨c, 0, none⟩)) (hq : a.tmps.getD q undef = .pointer (some ⟨b, 0, none⟩)) (hu : a.tmps.getD u undef = vu)
    (hc : PFB W c i0 i1 i2) (hb : TPB W b v0 v1 v2) (hd : a.defers = []) (hR : R (.returned (.tuple #[.agg #[i0, i1, i2], .agg #[v0, v1, v2], vu])) W) : bodyPost Tryz.prog fn R Exit.ret a W := by
  refine bodyPost_ret (v := .tuple #[.agg #[i0, i1, i2], .agg #[v0, v1, v2], vu]) (w := W) ?_ hd hR
  rw [results_itt h, hp, hq, hu]
  simp [asAddr, Result.andThen, run_loadVar_row W c _ _ _ (0, 0) _ hc Tryz.underlying61 rfl info_proof, run_loadVar_row W b _ _ _ (0, 0) _ hb Tryz.underlying63 rfl info_tape]
/-- the world behind a boxed rule, statement and tape, a proof and a tape -/
theorem box_sim (w : World) (C L : ByteArray) (a : StA) (S : StM) (v0 v1 v2 : Value) : ∃ W, ((((w.alloc (.cells #[.string C, .string L] 31)).alloc (.cells #[.slice a.ga S.G.length a.gc, .slice a.va S.V.length a.vc, .slice a.qa S.Q.length a.qc] 49)).alloc (.cells #[v0, v1, v2] 63)).alloc (.cells #[.slice none 0 0, .string ⟨#[]⟩, .slice none 0 0] 61)).alloc (.cells #[.slice none 0 0, .string ⟨#[]⟩, .int .i64 0] 63) = W ∧
    RUB W w.heap.size C L ∧ SXB W (w.heap.size + 1) a S ∧ TPB W (w.heap.size + 1 + 1) v0 v1 v2 ∧ PFB W (w.heap.size + 1 + 1 + 1) (.slice none 0 0) (.string ⟨#[]⟩) (.slice none 0 0) ∧ TPB W (w.heap.size + 1 + 1 + 1 + 1) (.slice none 0 0) (.string ⟨#[]⟩) (.int .i64 0) ∧ Below w.heap.size w W := by
  obtain ⟨w2, hw2, h0, h1, b2⟩ := box_rs w C L a S
  have hs2 : w2.heap.size = w.heap.size + 1 + 1 := by rw [← hw2]; simp
  have b3 := (Below.refl _ w2).alloc (Nat.le_refl _) (.cells #[v0, v1, v2] 63)
  have b4 := b3.alloc b3.size (.cells #[.slice none 0 0, .string ⟨#[]⟩, .slice none 0 0] 61)
  have b5 := b4.alloc b4.size (.cells #[.slice none 0 0, .string ⟨#[]⟩, .int .i64 0] 63)
  have k4 := (Below.refl _ (w2.alloc (.cells #[v0, v1, v2] 63))).alloc (Nat.le_refl _) (.cells #[.slice none 0 0, .string ⟨#[]⟩, .slice none 0 0] 61)
  have k5 := (Below.refl _ ((w2.alloc (.cells #[v0, v1, v2] 63)).alloc (.cells #[.slice none 0 0, .string ⟨#[]⟩, .slice none 0 0] 61))).alloc (Nat.le_refl _) (.cells #[.slice none 0 0, .string ⟨#[]⟩, .int .i64 0] 63)
  have g3 := TPB.new w2 v0 v1 v2
  have g4 := PFB.new (w2.alloc (.cells #[v0, v1, v2] 63)) (.slice none 0 0) (.string ⟨#[]⟩) (.slice none 0 0)
  have g5 := TPB.new ((w2.alloc (.cells #[v0, v1, v2] 63)).alloc (.cells #[.slice none 0 0, .string ⟨#[]⟩, .slice none 0 0] 61)) (.slice none 0 0) (.string ⟨#[]⟩) (.int .i64 0)
  have e3 := (g3.below k4 g3.lt).below k5 (g3.below k4 g3.lt).lt
  have e4 := g4.below k5 g4.lt
  simp only [World.size_alloc, hs2] at e3 e4 g5
  rw [hw2]
  exact ⟨_, rfl, h0.below b5 h0.lt, h1.below b5 h1.lt, e3, e4, g5, b2.trans (b5.mono b2.size)⟩
set_option maxHeartbeats 8000000 in
theorem sSimulate_tt (K L c : Nat) (h1 : 2 ≤ K) (h2 : K < 4) (h3 : 2 ≤ L) (h4 : L < 4) (hcK : c < K) (g : Int) (a : StA) (ta : Option Addr) (tc : Nat) (S : StM) (hSe : ttS (enc (pw g)) ta tc = S) (vo : Option Addr) (vc x : Nat) (w : World) (hS : SS w a S) (hN : NS w vo [enc x]) (hlt : x < 2 * (L * K * 20 - (K - 1) * 19) - 1) :
    Calls Tryz.prog 11 #[.agg #[.string (enc K), .string (enc L)], .agg #[.slice a.ga S.G.length a.gc, .slice a.va S.V.length a.vc, .slice a.qa S.Q.length a.qc], .string (enc c), .agg #[.slice vo 1 vc, .string ⟨#[]⟩, .int .i64 0]] w fun e w' => ∃ fo fc ro rc no nc, e = .returned (.tuple #[.agg #[.slice fo 1 fc, .string (enc c), .slice ro 1 rc], .agg #[.slice no 1 nc, .string ⟨#[]⟩, .int .i64 1], .int .i64 0]) ∧ NS w' fo [enc (pw ((x : Int) - (((L * K * 20 - (K - 1) * 19 : Nat) : Int) - 1) - c * g))] ∧ IS w' ro [(zb ((x : Int) - (((L * K * 20 - (K - 1) * 19 : Nat) : Int) - 1)), zs ((x : Int) - (((L * K * 20 - (K - 1) * 19 : Nat) : Int) - 1)))] ∧ Below w.heap.size w w' := by
  obtain ⟨W, hW, hU, hX, hP, hF, hR, hb⟩ := box_sim w (enc K) (enc L) a S (.slice vo 1 vc) (.string ⟨#[]⟩) (.int .i64 0)
  have hS0 := hS.below hb (Nat.le_refl _)
  have hN0 := hN.keepL (cells_keepL hb (Nat.le_refl _))
  have hok : S.ok := by rw [← hSe]; exact tt_ok g ta tc
  have hV : S.V = [⟨#[20]⟩] := by rw [← hSe]; rfl
  have hn : S.V.length = 1 := by rw [hV]; rfl
  have hbd : bdE (enc K) (enc L) S.pl = 0 := by rw [← hSe]; exact tt_bd g K L h1 h2 h3 h4 ta tc
  have hKL : L * K * 20 ≤ 180 := by
    have : L * K ≤ 3 * 3 := Nat.mul_le_mul (by omega) (by omega)
    omega
  have hKL1 : 1 ≤ L * K * 20 - (K - 1) * 19 := by
    have h0 : 2 * K ≤ L * K := Nat.mul_le_mul_right K h3
    omega
  have sz : ∀ k, k < 4 → (enc k).size ≤ 8 := fun k hk => by rw [size_enc]; exact Nat.le_trans ((blen_le_iff k 1).2 (by omega)) (by omega)
  have HB := Lib.hid (sBounds_one (enc K) (enc L) a S ⟨#[20]⟩ _ _ W hS0 hok (sz K h2) (sz L h4) hV (by decide) hbd (tt_lim K L _))
  obtain ⟨t, ht⟩ : ∃ t, L * K * 20 - (K - 1) * 19 = t := ⟨_, rfl⟩
  rw [ht] at HB hlt hKL1 ⊢
  have ht2 : t ≤ 180 := by omega
  obtain ⟨z, hz⟩ : ∃ z : Int, (x : Int) - ((t : Int) - 1) = z := ⟨_, rfl⟩
  have hzs : z.natAbs < 65536 := by omega
  have HVc := Lib.hid (nvalidQ (sN (n := c) (by omega)).valid)
  have HTP := Lib.hid (fun w' (hb' : Below W.heap.size W w') => stape_any vo 1 vc [enc x] w' (hN0.keepL (cells_keepL hb' (Nat.le_refl _))) rfl (by decide) (by simp [(sN (n := x) (by omega)).valid]))
  have hz1 : decide (ncmp c K ≥ 0) = false := by
    rcases ncmpLt c K with ⟨_, h⟩ | ⟨h, _⟩
    · rw [h]; decide
    · exact absurd hcK h
  have HC := Lib.hid (fun w' => Cmp_any (enc c) (enc K) c K w' (sN (by omega)) (sN (by omega)))
  generalize ncmp c K = zc at HC hz1
  have HS1 := Lib.hid (fun ps pb w' (hV' : w'.cell? ⟨ps, 1, none⟩ = some (.slice a.va 1 a.vc)) (hVS : NS w' a.va [⟨#[20]⟩]) bo bc (hB : w'.cell? ⟨pb, 0, none⟩ = some (.slice bo 1 bc)) (hBS : NS w' bo [enc t]) (hb' : Below W.heap.size W w') => sim1_one ps pb a.va bo a.vc bc ⟨#[20]⟩ vo vc x t w' hV' hVS (by decide +kernel) hB hBS (hN0.keepL (cells_keepL hb' (Nat.le_refl _))) hKL1 (by omega) hlt)
  rw [hz] at HS1 ⊢
  have HDR := Lib.hid (fun ps pb w' (hb' : Below W.heap.size W w') HF => drawn_one a S ⟨#[20]⟩ vo vc (zb z) (zs z) ps pb w' (hS0.below hb' (Nat.le_refl _)) hV HF)
  have HMS := Lib.hid (fun w' (hb' : Below w.heap.size w w') ro rc (hr : IS w' ro [(zb z, zs z)]) => messages_tt g z c a ta tc S hSe ro rc w' (hS.below hb' (Nat.le_refl _)) hr hzs (by omega))
  have hVS := hS0.v
  rw [hV] at hVS
  have x0 := hX.c0
  have x1 := hX.c1
  have x2 := hX.c2
  have u0 := hU.c0
  have u1 := hU.c1
  have p0 := hP.c0
  have p1 := hP.c1
  have p2 := hP.c2
  simp only [hn] at hW HB HDR HMS x1 ⊢
  have HEN := Lib.hid (enc_neE (pw_pos (z - c * g)))
  generalize enc (pw (z - c * g)) = F at HMS HEN ⊢
  generalize zb z = zg at HS1 HDR HMS ⊢
  generalize zs z = ze at HS1 HDR HMS ⊢
  clear hS hN hS0 hN0 hok hV hbd hlt hKL hKL1 sz hz hzs
  go_enter Tryz.func11, Tryz.ntmps11
  go_wp2_with fail
  clear hW
  refine HB.out.mono ?_; rintro e w1 ⟨mo, mc, bo, bc, rfl, _, hBN, b1⟩
  replace x0 := cells_keepL b1 (Nat.le_refl _) _ _ x0
  replace x1 := cells_keepL b1 (Nat.le_refl _) _ _ x1
  replace x2 := cells_keepL b1 (Nat.le_refl _) _ _ x2
  replace u0 := cells_keepL b1 (Nat.le_refl _) _ _ u0
  replace p0 := cells_keepL b1 (Nat.le_refl _) _ _ p0
  replace p1 := cells_keepL b1 (Nat.le_refl _) _ _ p1
  replace p2 := cells_keepL b1 (Nat.le_refl _) _ _ p2
  have bS := (Below.refl _ w1).alloc (Nat.le_refl _) (.cells #[.slice bo 1 bc] 54)
  go_wp2_with fail
  have hBB : (w1.alloc (.cells #[.slice bo 1 bc] 54)).cell? ⟨w1.heap.size, 0, none⟩ = some (.slice bo 1 bc) := by rw [Lib.cell_of_heap (heap_alloc_new w1 _)]; rfl
  have b2 := b1.trans (bS.mono b1.size)
  replace x0 := cells_keepL bS (Nat.le_refl _) _ _ x0
  replace x1 := cells_keepL bS (Nat.le_refl _) _ _ x1
  replace x2 := cells_keepL bS (Nat.le_refl _) _ _ x2
  replace u0 := cells_keepL bS (Nat.le_refl _) _ _ u0
  replace p0 := cells_keepL bS (Nat.le_refl _) _ _ p0
  replace p1 := cells_keepL bS (Nat.le_refl _) _ _ p1
  replace p2 := cells_keepL bS (Nat.le_refl _) _ _ p2
  replace hBN := hBN.keepL (cells_keepL bS (Nat.le_refl _))
  clear HB u1 b1 bS
  generalize w1.heap.size = pb at hBB ⊢
  generalize World.alloc w1 _ = w2 at hBB b2 x0 x1 x2 u0 p0 p1 p2 hBN ⊢
  refine (HVc.out _).mono ?_; rintro e w3 ⟨rfl, rfl⟩
  go_wp2_with fail
  refine (HTP.out _ b2).mono ?_; rintro e w3 ⟨rfl, b3⟩
  replace x0 := cells_keepL b3 (Nat.le_refl _) _ _ x0
  replace x1 := cells_keepL b3 (Nat.le_refl _) _ _ x1
  replace x2 := cells_keepL b3 (Nat.le_refl _) _ _ x2
  replace u0 := cells_keepL b3 (Nat.le_refl _) _ _ u0
  replace p0 := cells_keepL b3 (Nat.le_refl _) _ _ p0
  replace p1 := cells_keepL b3 (Nat.le_refl _) _ _ p1
  replace p2 := cells_keepL b3 (Nat.le_refl _) _ _ p2
  replace hBN := hBN.keepL (cells_keepL b3 (Nat.le_refl _))
  replace hBB := cells_keepL b3 (Nat.le_refl _) _ _ hBB
  replace b2 := b2.trans (b3.mono b2.size)
  have hVS3 := hVS.keepL (cells_keepL b2 (Nat.le_refl _))
  clear b3 hVS HTP HVc
  go_wp2_with fail
  refine (HC.out _).mono ?_; rintro e w4 ⟨rfl, rfl⟩
  go_wp2_with fail
  have HD := HDR.out (w.heap.size + 1) pb w3 b2 (fun w' hb' => HS1.out (w.heap.size + 1) pb w' (cells_keepL hb' (Nat.le_refl _) _ _ x1) (hVS3.keepL (cells_keepL hb' (Nat.le_refl _))) bo bc (cells_keepL hb' (Nat.le_refl _) _ _ hBB) (hBN.keepL (cells_keepL hb' (Nat.le_refl _))) (b2.trans (hb'.mono b2.size)))
  refine HD.mono ?_; rintro e w4 ⟨ro, rc, no, nc, rfl, hI4, b4⟩
  replace b2 := b2.trans (b4.mono b2.size)
  replace hX := hX.below b2 hX.lt
  replace hP := hP.below b2 hP.lt
  replace hF := hF.below b2 hF.lt
  replace hR := hR.below b2 hR.lt
  replace hb := hb.trans (b2.mono hb.size)
  clear HD HDR HS1 HC x0 x1 x2 u0 p0 p1 p2 hBN hBB hVS3 b4 b2 hU
  have hP5 := hP.put (v0 := .slice no 1 nc) (v1 := .string ⟨#[]⟩) (v2 := .int .i64 1)
  have hX5 : SXB _ (w.heap.size + 1) a S := (put3_other w4 (w.heap.size + 1 + 1) (.slice no 1 nc) (.string ⟨#[]⟩) (.int .i64 1) (w.heap.size + 1) (by omega)).trans hX
  have hF5 : PFB _ (w.heap.size + 1 + 1 + 1) _ _ _ := (put3_other w4 (w.heap.size + 1 + 1) (.slice no 1 nc) (.string ⟨#[]⟩) (.int .i64 1) (w.heap.size + 1 + 1 + 1) (by omega)).trans hF
  have hR5 : TPB _ (w.heap.size + 1 + 1 + 1 + 1) _ _ _ := (put3_other w4 (w.heap.size + 1 + 1) (.slice no 1 nc) (.string ⟨#[]⟩) (.int .i64 1) (w.heap.size + 1 + 1 + 1 + 1) (by omega)).trans hR
  have hI5 := hI4.heap (w' := ((w4.setCell ⟨w.heap.size + 1 + 1, 0, none⟩ (.slice no 1 nc)).setCell ⟨w.heap.size + 1 + 1, 1, none⟩ (.string ⟨#[]⟩)).setCell ⟨w.heap.size + 1 + 1, 2, none⟩ (.int .i64 1)) (fun b off e => put3_other w4 (w.heap.size + 1 + 1) _ _ _ b (hI4.noTPB (by simp) hP b off e))
  have hb5 := ((hb.setCell (p := ⟨w.heap.size + 1 + 1, 0, none⟩) (by simp; omega) (.slice no 1 nc)).setCell (p := ⟨w.heap.size + 1 + 1, 1, none⟩) (by simp; omega) (.string ⟨#[]⟩)).setCell (p := ⟨w.heap.size + 1 + 1, 2, none⟩) (by simp; omega) (.int .i64 1)
  have p0 := hP.c0
  have p1 := hP.c1
  have p2 := hP.c2
  have p3 := hP.f 0
  have p4 := hP.f 1
  have p5 := hP.f 2
  have y0 := hX5.c0
  have y1 := hX5.c1
  have y2 := hX5.c2
  have q0 := hP5.c0
  have q1 := hP5.c1
  have q2 := hP5.c2
  simp only [hn] at y1
  clear hX hF hR hI4 hb
  go_wp2_with fail
  clear p0 p1 p2 p3 p4 p5 hP
  generalize World.setCell (World.setCell (World.setCell w4 _ _) _ _) _ _ = w5 at hP5 hX5 hF5 hR5 hI5 hb5 y0 y1 y2 q0 q1 q2 ⊢
  have hb5d := hb5.drew
  have HM := Lib.hid (HMS.out w5.drew hb5d ro rc hI5)
  clear HMS
  go_region_with ((go_at_call 26; (with_reducible refine HM.out.mono ?_); rintro e w6 ⟨fo, fc, rfl, hN6, b6⟩; have hP6 := TPB.below (w := w5.drew) hP5 b6 hP5.lt; have hF6 := PFB.below (w := w5.drew) hF5 b6 hF5.lt; have hR6 := TPB.below (w := w5.drew) hR5 b6 hR5.lt; have hI6 := IS.keepL (w := w5.drew) hI5 (cells_keepL b6 (Nat.le_refl _)); have hb6 := hb5d.trans (b6.mono hb5d.size); have z0 := hF6.c0; have z1 := hF6.c1; have z2 := hF6.c2; have z3 := hF6.f 0; have z4 := hF6.f 1; have z5 := hF6.f 2; have r0 := hR6.c0; have r1 := hR6.c1; have r2 := hR6.c2; have r3 := hR6.f 0; have r4 := hR6.f 1; have r5 := hR6.f 2; have s0 := hP6.c0; have s1 := hP6.c1; have s2 := hP6.c2))
  all_goals
    have hnF : ∀ b off, fo = some ⟨b, off, none⟩ → b ≠ w.heap.size + 1 + 1 + 1 := hN6.ne hF6 (by intro u hu; simp at hu; rcases hu with rfl | rfl | rfl <;> simp; exact fun e => HEN.out e.symm)
    have hnR : ∀ b off, fo = some ⟨b, off, none⟩ → b ≠ w.heap.size + 1 + 1 + 1 + 1 := hN6.ne hR6 (by intro u hu; simp at hu; rcases hu with rfl | rfl | rfl <;> simp; exact fun e => HEN.out e.symm)
    have hiF : ∀ b off, ro = some ⟨b, off, none⟩ → b ≠ w.heap.size + 1 + 1 + 1 := hI6.ne (by simp) hF6 (by intro u hu g; simp at hu; rcases hu with rfl | rfl | rfl <;> simp)
    have hiR : ∀ b off, ro = some ⟨b, off, none⟩ → b ≠ w.heap.size + 1 + 1 + 1 + 1 := hI6.ne (by simp) hR6 (by intro u hu g; simp at hu; rcases hu with rfl | rfl | rfl <;> simp)
    have hF7 := hF6.put (.slice fo 1 fc) (.string (enc c)) (.slice ro 1 rc)
    have hR7 : TPB _ (w.heap.size + 1 + 1 + 1 + 1) _ _ _ := (put3_other w6 (w.heap.size + 1 + 1 + 1) (.slice fo 1 fc) (.string (enc c)) (.slice ro 1 rc) (w.heap.size + 1 + 1 + 1 + 1) (by omega)).trans hR6
    have hR8 := hR7.put (v0 := .slice no 1 nc) (v1 := .string ⟨#[]⟩) (v2 := .int .i64 1)
    have hF8 : PFB _ (w.heap.size + 1 + 1 + 1) _ _ _ := (put3_other _ (w.heap.size + 1 + 1 + 1 + 1) (.slice no 1 nc) (.string ⟨#[]⟩) (.int .i64 1) (w.heap.size + 1 + 1 + 1) (by omega)).trans hF7
    have hN8 := hN6.heap (fun b off e => (put3_other (((w6.setCell ⟨w.heap.size + 1 + 1 + 1, 0, none⟩ (.slice fo 1 fc)).setCell ⟨w.heap.size + 1 + 1 + 1, 1, none⟩ (.string (enc c))).setCell ⟨w.heap.size + 1 + 1 + 1, 2, none⟩ (.slice ro 1 rc)) (w.heap.size + 1 + 1 + 1 + 1) (.slice no 1 nc) (.string ⟨#[]⟩) (.int .i64 1) b (hnR b off e)).trans (put3_other w6 (w.heap.size + 1 + 1 + 1) _ _ _ b (hnF b off e)))
    have hI8 := hI6.heap (fun b off e => (put3_other (((w6.setCell ⟨w.heap.size + 1 + 1 + 1, 0, none⟩ (.slice fo 1 fc)).setCell ⟨w.heap.size + 1 + 1 + 1, 1, none⟩ (.string (enc c))).setCell ⟨w.heap.size + 1 + 1 + 1, 2, none⟩ (.slice ro 1 rc)) (w.heap.size + 1 + 1 + 1 + 1) (.slice no 1 nc) (.string ⟨#[]⟩) (.int .i64 1) b (hiR b off e)).trans (put3_other w6 (w.heap.size + 1 + 1 + 1) _ _ _ b (hiF b off e)))
    have hb7 := ((hb6.setCell (p := ⟨w.heap.size + 1 + 1 + 1, 0, none⟩) (by simp; omega) (.slice fo 1 fc)).setCell (p := ⟨w.heap.size + 1 + 1 + 1, 1, none⟩) (by simp; omega) (.string (enc c))).setCell (p := ⟨w.heap.size + 1 + 1 + 1, 2, none⟩) (by simp; omega) (.slice ro 1 rc)
    have hb8 := ((hb7.setCell (p := ⟨w.heap.size + 1 + 1 + 1 + 1, 0, none⟩) (by simp; omega) (.slice no 1 nc)).setCell (p := ⟨w.heap.size + 1 + 1 + 1 + 1, 1, none⟩) (by simp; omega) (.string ⟨#[]⟩)).setCell (p := ⟨w.heap.size + 1 + 1 + 1 + 1, 2, none⟩) (by simp; omega) (.int .i64 1)
    clear HM hP5 hX5 hF5 hR5 hI5 hb5 hb5d hP6 hF6 hR6 hN6 hI6 hF7 hR7 hb7 hnF hnR hiF hiR z0 z1 z2 z3 z4 z5 r0 r1 r2 r3 r4 r5 s0 s1 s2 y0 y1 y2 q0 q1 q2 b6
    go_wp2_with fail
    exact bodyPost_ptt rfl rfl rfl rfl hF8 hR8 rfl ⟨fo, fc, ro, rc, no, nc, rfl, hN8, hI8, hb8⟩
end Go.Proofs.YtapmeiaonnnmdaaGreatDoor
