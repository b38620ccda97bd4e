/- The reference of layer 2: Extended. -/
import Derived.Test.YtcbamkgomnhdbaaGreatDoorR2d
namespace Go.Proofs.YtcbamkgomnhdbaaGreatDoor
open Go.RowKit Num
set_option maxRecDepth 20000
set_option linter.unusedVariables false
theorem BS.sety {w W : World} {p q : Nat} {x y : Int} (h : BS w W p q x y) (hpq : p ≠ q) (a : Int) : BS w ((W.setCell ⟨q, 0, none⟩ (.bool (zb a))).setCell ⟨q, 1, none⟩ (.string (zs a))) p q x a := by
  have ho := h.o
  have e : ∀ k, k ≠ q → ((W.setCell ⟨q, 0, none⟩ (.bool (zb a))).setCell ⟨q, 1, none⟩ (.string (zs a))).heap[k]? = W.heap[k]? := fun k hk => (Below.heap_setCell _ _ _ _ hk).trans (Below.heap_setCell _ _ _ _ hk)
  exact ⟨(e _ hpq).trans h.x, put2 h.y, (e _ (by omega)).trans h.r5, (e _ (by omega)).trans h.r6,
    (h.b.setCell (p := ⟨q, 0, none⟩) (by show _ ≤ q; omega) _).setCell (p := ⟨q, 1, none⟩) (by show _ ≤ q; omega) _, ho⟩
set_option maxHeartbeats 8000000 in
theorem ref2Ext_z (a b : Nat) (w : World) (ha : blen a ≤ 128) (hb : blen b ≤ 128) (h0 : 0 < b) :
    Calls Tryz.prog 194 #[.string (enc a), .string (enc b)] w (ExtR a b w) := by
  have HA := Lib.hid (IsN.mk' ha)
  have HB := Lib.hid (IsN.mk' hb)
  have HAL := Lib.hid ha
  have HBL := Lib.hid hb
  have H0 := Lib.hid h0
  have ne := (notEmpty_enc h0).1
  have ne' := toList_enc_nil h0
  have hgp : 0 < Nat.gcd a b := Nat.gcd_pos_of_pos_right a h0
  have hgb : Nat.gcd a b ≤ b := Nat.le_of_dvd h0 (Nat.gcd_dvd_right a b)
  have HG := Lib.hid (IsN.mk' (Nat.le_trans (blen_mono hgb) hb))
  have HGP := Lib.hid hgp
  have HM := Lib.hid (And.intro (Nat.le_trans (blen_mono (Nat.div_le_self b (Nat.gcd a b))) hb) (And.intro (Nat.le_trans (blen_mono (Nat.div_le_self a (Nat.gcd a b))) ha) (Nat.div_pos hgb hgp)))
  clear ha hb h0 hgp hgb
  go_enter Tryz.func194, Tryz.ntmps194
  go_wp2_with fail
  have r5 := (RBox.new w).alloc (.cells #[.bool false, .string ⟨#[]⟩] 54)
  have r6 := RBox.new (w.alloc (.cells #[.bool false, .string ⟨#[]⟩] 54))
  rw [World.size_alloc] at r6
  have b1 := ((Below.refl _ w).alloc (Nat.le_refl _) (.cells #[.bool false, .string ⟨#[]⟩] 54)).alloc (by simp) (.cells #[.bool false, .string ⟨#[]⟩] 54)
  generalize World.alloc _ _ = w1 at r5 r6 b1 ⊢
  refine (refValid_any _ _).mono ?_; rw [HA.out.valid]; rintro e w2 ⟨rfl, rfl⟩
  go_wp2_with fail
  refine (refValid_any _ _).mono ?_; rw [HB.out.valid]; rintro e w2 ⟨rfl, rfl⟩
  go_wp2_with fail
  refine (refBez_z b a _ HAL.out HBL.out).mono ?_
  rintro e w3 ⟨x, y, rfl, hxy, hx, hy, hz, b3⟩
  replace r5 := r5.below b3 r5.lt
  replace r6 := r6.below b3 r6.lt
  replace b1 := bbl b1 b3
  have hS := BS.new r5 r6 b1 x y r6.lt
  have zx : ZOk x := Nat.le_trans (blen_mono (show x.natAbs ≤ max b 1 by omega)) (blen_max1 HBL.out)
  have zy : ZOk y := Nat.le_trans (blen_mono (show y.natAbs ≤ max a 1 by omega)) (blen_max1 HAL.out)
  have ZO := Lib.hid (And.intro zx zy)
  have HBND : Hid (∀ (q : Int) (rr : Nat), x = q * ((b / Nat.gcd a b : Nat) : Int) + rr → rr < b / Nat.gcd a b → ZOk (q * ((a / Nat.gcd a b : Nat) : Int)) ∧ ZOk (y + q * ((a / Nat.gcd a b : Nat) : Int))) := fun q rr h1 h2 => by
    obtain ⟨e1, e2, e3⟩ := ext_fin H0.out hxy hx h1 h2
    exact ⟨Nat.le_trans (blen_mono e3) HAL.out, Nat.le_trans (blen_mono e2) (blen_max1 HAL.out)⟩
  have HFIN : Hid (∀ (q : Int) (rr : Nat) (W' : World), x = q * ((b / Nat.gcd a b : Nat) : Int) + rr → rr < b / Nat.gcd a b → Below w.heap.size w W' →
      ExtR a b w (.returned (.tuple #[.string (enc (Nat.gcd a b)), .agg #[.bool false, .string (enc rr)], .agg #[.bool (zb (y + q * ((a / Nat.gcd a b : Nat) : Int))), .string (zs (y + q * ((a / Nat.gcd a b : Nat) : Int)))], .int .i64 0])) W') := fun q rr W' h1 h2 hB => by
    obtain ⟨e1, e2, e3⟩ := ext_fin H0.out hxy hx h1 h2
    refine ⟨(rr : Int), _, ?_, e1, by omega, Int.ofNat_lt.2 h2, e2, hB⟩
    rw [show zb (rr : Int) = false from decide_eq_false (Int.not_lt.2 (Int.natCast_nonneg _))]
    rfl
  clear zx zy hxy hx hy hz b1 b3 ne ne' H0
  generalize Nat.gcd a b = g at HFIN HM HG HGP HBND ⊢
  clear r5 r6
  go_wp2_with fail
  generalize w3.heap.size = p at hS ⊢
  generalize World.alloc _ _ = w4 at hS ⊢
  refine (refDivMod_any _ _ b g _ HB.out HG.out HGP.out).mono ?_; rintro e w5 ⟨rfl, b5⟩
  replace hS := hS.below b5
  clear b5
  go_wp2_with fail
  refine (refDivMod_any _ _ a g _ HA.out HG.out HGP.out).mono ?_; rintro e w6 ⟨rfl, b6⟩
  replace hS := hS.below b6
  clear b6
  generalize b / g = m at HFIN HM HBND ⊢
  generalize a / g = k at HFIN HM HBND ⊢
  generalize b % g = t1
  generalize a % g = t2
  go_wp2_with fail
  go_cut [17, 18, 19] from 58 (fun s17 s18 s19 wc => ∃ (r : Nat) (q : Int) (rr : Nat), s17 = .pointer (some ⟨r, 0, none⟩) ∧ s18 = .string (enc rr) ∧ (∃ v, s19 = v) ∧ Hid ((x = q * (m : Int) + rr ∧ rr < m) ∧ ZOk q ∧ blen rr ≤ 128) ∧ ZBox wc r q ∧ BS w wc p (p + 1) x y)
  case first =>
    have hSd : BS w w6.drew p (p + 1) x y := hS.drew
    have c0 := hSd.x.c0
    have c1 := hSd.x.c1
    have hS1 : BS w (w6.alloc (.cells #[.bool false, .string ⟨#[]⟩] 54)).drew p (p + 1) x y := (hS.alloc _).drew
    have a0 : (w6.alloc (.cells #[.bool false, .string ⟨#[]⟩] 54)).drew.cell? ⟨p, 0, none⟩ = some (.bool (zb x)) := hS1.x.c0
    have a1 : (w6.alloc (.cells #[.bool false, .string ⟨#[]⟩] 54)).drew.cell? ⟨p, 1, none⟩ = some (.string (zs x)) := hS1.x.c1
    have a2 : (w6.alloc (.cells #[.bool false, .string ⟨#[]⟩] 54)).cell? ⟨p, 0, none⟩ = some (.bool (zb x)) := hS1.x.c0
    have a3 : (w6.alloc (.cells #[.bool false, .string ⟨#[]⟩] 54)).cell? ⟨p, 1, none⟩ = some (.string (zs x)) := hS1.x.c1
    have hp1 : p < w6.heap.size := hS.x.lt
    have hp2 : p + 1 < w6.heap.size := hS.y.lt
    go_region_with (first
      | ((with_reducible refine (ref2From_e m _ HM.out.1).mono ?_); rintro e w7 ⟨rfl, b7⟩; (first | have hS5 := hSd.below b7 | have hS5 := hS1.below b7); (first | (have r5 : RBox w7 w6.heap.size := (RBox.new w6).drew.below b7 (RBox.new w6).lt) | skip); have z5 := b7.size; have d0 := hS5.x.c0; have d1 := hS5.x.c1; have t5 := hS5.alloc (.cells #[.bool false, .string ⟨#[]⟩] 54); have g0 := t5.x.c0; have g1 := t5.x.c1)
      | ((with_reducible refine (ref2DivMod_z x m _ ZO.out.1 HM.out.1 HM.out.2.2).mono ?_); rintro e w8 ⟨q, rr, rfl, hq, hr, hzq, hqa, b8⟩; (first | have hS6 := hS5.below b8 | have hS6 := (hS5.alloc _).below b8); (first | have r6 := r5.below b8 r5.lt | have r6 := (RBox.new _).below b8 (by simp) | have r6 := trivial); have HQ := Lib.hid (And.intro (And.intro hq hr) (And.intro hzq (Nat.le_trans (blen_mono (Nat.le_of_lt hr)) HM.out.1))); clear hq hr hzq hqa; (first | (have f0 := r6.f0; have f1 := r6.f1; have e0 := r6.c0; have e1 := r6.c1) | skip)))
    all_goals (go_wp2_with fail; go_meet)
    all_goals first
      | exact ⟨_, _, _, rfl, rfl, ⟨_, rfl⟩, HQ, put2 r6, hS6.put (by have := hS.x.lt; have := hS5.x.lt; simp at *; omega) (by have := hS.y.lt; have := hS5.y.lt; simp at *; omega) _ _⟩
      | exact ⟨_, _, _, rfl, rfl, ⟨_, rfl⟩, HQ, ZBox.new _ _, hS6.alloc _⟩
      | exact ⟨_, _, _, rfl, rfl, ⟨_, rfl⟩, HQ, put2 (RBox.new _), (hS6.alloc _).put (by have := hS6.x.lt; simp at *; omega) (by have := hS6.y.lt; simp at *; omega) _ _⟩
  case rest =>
    clear hS
    obtain ⟨r, q, rr, rfl, rfl, ⟨_, rfl⟩, HQ, hr, hS⟩ := hcut
    rename World => wm
    have HB2 := Lib.hid (HBND.out q rr HQ.out.1.1 HQ.out.1.2)
    have c0 := hr.c0
    have c1 := hr.c1
    go_wp2_with fail
    clear c0 c1
    go_cut [20, 21] from 66 (fun s20 s21 wc => ∃ r' : Nat, s20 = .pointer (some ⟨r', 0, none⟩) ∧ (∃ v, s21 = v) ∧ ZBox wc r' (q * (k : Int)) ∧ BS w wc p (p + 1) x y)
    case first =>
      have hSd : BS w wm.drew p (p + 1) x y := hS.drew
      have hrd : ZBox wm.drew r q := hr
      have c0 := hrd.c0
      have c1 := hrd.c1
      have hS1 : BS w (wm.alloc (.cells #[.bool false, .string ⟨#[]⟩] 54)).drew p (p + 1) x y := (hS.alloc _).drew
      have hr1 : ZBox (wm.alloc (.cells #[.bool false, .string ⟨#[]⟩] 54)).drew r q := hr.alloc _
      have a0 := hr1.c0
      have a1 := hr1.c1
      have a2 := (hr.alloc (.cells #[.bool false, .string ⟨#[]⟩] 54)).c0
      have a3 := (hr.alloc (.cells #[.bool false, .string ⟨#[]⟩] 54)).c1
      have hp1 : p < wm.heap.size := hS.x.lt
      have hp2 : p + 1 < wm.heap.size := hS.y.lt
      go_region_with (first
        | ((with_reducible refine (ref2From_z k _ HM.out.2.1).mono ?_); rintro e w7 ⟨rfl, b7⟩; (first | have hS5 := hSd.below b7 | have hS5 := hS1.below b7); (first | have hr5 := hrd.below b7 hrd.lt | have hr5 := hr1.below b7 hr1.lt); (first | (have r5 : RBox w7 wm.heap.size := (RBox.new wm).drew.below b7 (RBox.new wm).lt) | skip); have z5 := b7.size; have d0 := hr5.c0; have d1 := hr5.c1; have t5 := hr5.alloc (.cells #[.bool false, .string ⟨#[]⟩] 54); have g0 := t5.c0; have g1 := t5.c1)
        | ((with_reducible refine (ref2Mul_z q (k : Int) _ HQ.out.2.1 (zok_nat HM.out.2.1) HB2.out.1).mono ?_); rintro e w8 ⟨rfl, b8⟩; (first | have hS6 := hS5.below b8 | have hS6 := (hS5.alloc _).below b8); (first | have r6 := r5.below b8 r5.lt | have r6 := (RBox.new _).below b8 (by simp) | have r6 := trivial); (first | (have f0 := r6.f0; have f1 := r6.f1; have e0 := r6.c0; have e1 := r6.c1) | skip)))
      all_goals (go_wp2_with fail; go_meet)
      all_goals first
        | exact ⟨_, rfl, ⟨_, rfl⟩, put2 r6, hS6.put (by have := hS.x.lt; have := hS5.x.lt; simp at *; omega) (by have := hS.y.lt; have := hS5.y.lt; simp at *; omega) _ _⟩
        | exact ⟨_, rfl, ⟨_, rfl⟩, ZBox.new _ _, hS6.alloc _⟩
        | exact ⟨_, rfl, ⟨_, rfl⟩, put2 (RBox.new _), (hS6.alloc _).put (by have := hS6.x.lt; simp at *; omega) (by have := hS6.y.lt; simp at *; omega) _ _⟩
    case rest =>
      clear hS hr
      obtain ⟨r', rfl, ⟨_, rfl⟩, hr, hS⟩ := hcut
      have c0 := hS.y.c0
      have c1 := hS.y.c1
      have c2 := hr.c0
      have c3 := hr.c1
      go_wp2_with fail
      clear c0 c1 c2 c3
      refine (ref2Add_z y _ _ ZO.out.2 HB2.out.1 HB2.out.2).mono ?_
      rintro e w9 ⟨rfl, b9⟩
      replace hS := hS.below b9
      clear hr b9
      have f0 := hS.y.f0
      have f1 := hS.y.f1
      have c0 := hS.y.c0
      have c1 := hS.y.c1
      replace HFIN := Lib.hid (fun W' => HFIN.out q rr W' HQ.out.1.1 HQ.out.1.2)
      generalize q * (k : Int) = qk at *
      have hS2 := hS.sety (by omega) (y + qk)
      generalize y + qk = yy at *
      go_wp2_with fail
      clear f0 f1 c0 c1
      clear hS
      have hSd := hS2.drew
      have c0 := hSd.y.c0
      have c1 := hSd.y.c1
      have d0 := hSd.r5.f0
      have d1 := hSd.r5.f1
      have d2 := hSd.r6.f0
      have d3 := hSd.r6.f1
      have k0 := hSd.r5.c0
      have k1 := hSd.r5.c1
      have k2 := hSd.r6.c0
      have k3 := hSd.r6.c1
      obtain ⟨ho1, ho2⟩ := hSd.o
      generalize World.setCell _ _ _ = wn at *
      go_region_with (first
        | ((with_reducible refine (ref2From_e rr _ HQ.out.2.2).mono ?_); rintro e w7 ⟨rfl, b7⟩; have hS5 := hSd.below b7; have e0 := hS5.y.c0; have e1 := hS5.y.c1; have g0 := hS5.r5.f0; have g1 := hS5.r5.f1; have g2 := hS5.r6.f0; have g3 := hS5.r6.f1; have m0 := hS5.r5.c0; have m1 := hS5.r5.c1; have m2 := hS5.r6.c0; have m3 := hS5.r6.c1))
      all_goals
        go_wp2_with fail
        obtain ⟨W', hW', q1, q2, q3⟩ := hS5.out (.bool false) (.string (enc rr)) (.bool (zb yy)) (.string (zs yy))
        rw [hW']
        exact bodyPost_ext rfl rfl rfl rfl rfl q1 q2 rfl (HFIN.out _ q3)
end Go.Proofs.YtcbamkgomnhdbaaGreatDoor
