import Derived.Test.YtdlbnioidfhhcaaGreatExD
/- extractor.Extract. -/
namespace Go.Proofs.YtdlbnioidfhhcaaGreat
open Go.RowKit Num
set_option maxRecDepth 20000
set_option linter.unusedVariables false
/-- what Extract returns -/
def XTQ (S : StM) (w : World) : Ending → World → Prop := fun e w' =>
  (∃ E : Int, E ≠ 0 ∧ e = .returned (.tuple #[.slice none 0 0, .int .i64 E]) ∧ Below w.heap.size w w') ∨
  (∃ (ao : Option Addr) (c : Nat) (l : List (Bool × ByteArray)), e = .returned (.tuple #[.slice ao S.V.length c, .int .i64 0]) ∧ IS w' ao l ∧ rdE S.pl l = 0 ∧ SzL l ∧ imS S.pl l = S.Q.map (·.2.1) ∧ Below w.heap.size w w')
theorem XTQ.bad {S : StM} {w w' : World} {e : Ending} {E : Int} (h : E ≠ 0) (he : e = .returned (.tuple #[.slice none 0 0, .int .i64 E])) (hb : Below w.heap.size w w') : XTQ S w e w' := .inl ⟨E, h, he, hb⟩
theorem XTQ.ok {S : StM} {w w' : World} {e : Ending} {ao : Option Addr} {c : Nat} {l : List (Bool × ByteArray)} (he : e = .returned (.tuple #[.slice ao S.V.length c, .int .i64 0])) (hi : IS w' ao l) (h0 : rdE S.pl l = 0) (hs : SzL l) (hm : imS S.pl l = S.Q.map (·.2.1)) (hb : Below w.heap.size w w') : XTQ S w e w' := .inr ⟨ao, c, l, he, hi, h0, hs, hm, hb⟩
/-- the boxes of Extract -/
structure EB (W : World) (p : Nat) (C L : ByteArray) (a : StA) (S : StM) (x y : PfA) : Prop where
  u : RUB W p C L
  s : SXB W (p + 1) a S
  f : PFB W (p + 1 + 1) x
  g : PFB W (p + 1 + 1 + 1) y
  sS : SS W a S
  k : PfK W x
  l : PfK W y
theorem EB.keep {W w' : World} {p : Nat} {C L : ByteArray} {a : StA} {S : StM} {x y : PfA} (h : EB W p C L a S x y) (hb : Below W.heap.size W w') : EB w' p C L a S x y :=
  ⟨h.u.below hb h.u.lt, h.s.below hb h.s.lt, h.f.below hb h.f.lt, h.g.below hb h.g.lt, h.sS.below hb (Nat.le_refl _), h.k.below hb, h.l.below hb⟩
theorem ebox (w : World) (C L : ByteArray) (a : StA) (S : StM) (x y : PfA) (hS : SS w a S) (hx : PfK w x) (hy : PfK w y) : ∃ W, (((w.alloc (.cells #[.string C, .string L] 24)).alloc (.cells #[.slice a.ga S.G.length a.gc, .slice a.va S.V.length a.vc, .slice a.qa S.Q.length a.qc] 42)).alloc (.cells #[.slice x.fa x.F.length x.fc, .string x.c, .slice x.ra x.R.length x.rc] 34)).alloc (.cells #[.slice y.fa y.F.length y.fc, .string y.c, .slice y.ra y.R.length y.rc] 34) = W ∧
    EB W w.heap.size C L a S x y ∧ Below w.heap.size w W := by
  obtain ⟨W3, e3, hV, hb⟩ := vbox w C L a S x hS hx
  have s3 : W3.heap.size = w.heap.size + 1 + 1 + 1 := by rw [← e3, World.size_alloc, World.size_alloc, World.size_alloc]
  rw [e3]
  have h4 := PFB.new W3 y
  have b4 := (Below.refl _ W3).alloc (Nat.le_refl _) (.cells #[.slice y.fa y.F.length y.fc, .string y.c, .slice y.ra y.R.length y.rc] 34)
  rw [s3] at h4
  have hb2 := hb.trans (b4.mono hb.size)
  have hV2 := hV.keep b4
  exact ⟨_, rfl, ⟨hV2.u, hV2.s, hV2.f, h4, hV2.S, hV2.k, hy.below hb2⟩, hb2⟩
theorem tl_eqX {x y : ByteArray} (h : x.toList = y.toList) : x = y := by
  cases x with | mk x => cases y with | mk y => simp only [ByteArray.toList_eq] at h; have := Array.toList_inj.1 h; subst this; rfl
set_option maxHeartbeats 16000000 in
theorem xextract_weak (C L : ByteArray) (a : StA) (S : StM) (x y : PfA) (w : World) (hS : SS w a S) (hok : S.ok) (hx : PfK w x) (hy : PfK w y) (s1 : C.size ≤ 8) (s2 : L.size ≤ 8) (s3 : ∀ v ∈ S.V, v.size ≤ 8) (hq : ∀ q ∈ S.Q, SzQ (eqp q)) (zx : ∀ r ∈ x.R, r.2.size ≤ 24) (zy : ∀ r ∈ y.R, r.2.size ≤ 24) (ho : (ordL S.G).size ≤ 8) (hv64 : S.V.length ≤ 64) :
    Calls Tryz.prog 8 #[.agg #[.string C, .string L], .agg #[.slice a.ga S.G.length a.gc, .slice a.va S.V.length a.vc, .slice a.qa S.Q.length a.qc], .agg #[.slice x.fa x.F.length x.fc, .string x.c, .slice x.ra x.R.length x.rc], .agg #[.slice y.fa y.F.length y.fc, .string y.c, .slice y.ra y.R.length y.rc]] w (XTQ S w) := by
  obtain ⟨W, hW, hV, hb⟩ := ebox w C L a S x y hS hx hy
  have HD := Lib.hid (fun w' (h : Below W.heap.size W w') => hV.keep h)
  have HDF := Lib.hid (fun w' (h : Below W.heap.size W w') => xdiff_weak C L a S x y w' (hV.keep h).sS hok (hV.keep h).k (hV.keep h).l s1 s2 s3 hq zx zy ho)
  have HLM := Lib.hid (fun w' (h : Below W.heap.size W w') ao c l (hi : IS w' ao l) (hn : l.length = S.V.length) (hz : SzL l) => limages_any a S ao S.V.length c l w' (hV.keep h).sS hok hi hn hok.vl ⟨hq, hz⟩)
  have HOR := Lib.hid (fun w' (h : SS w' a S) => xorder_any a S w' h hok)
  obtain ⟨oq, hoq⟩ : ∃ o, ordL S.G = o := ⟨_, rfl⟩
  rw [hoq] at HOR ho
  have HO := Lib.hid ho
  have lQ := hok.ql
  unfold maxLen at lQ
  have f0 := hV.f.c0
  have f1 := hV.f.c1
  have f2 := hV.f.c2
  have g0 := hV.g.c0
  have g1 := hV.g.c1
  have g2 := hV.g.c2
  have u0 := hV.u.c0
  have u1 := hV.u.c1
  have x0 := hV.s.c0
  have x1 := hV.s.c1
  have x2 := hV.s.c2
  clear hS hok hx hy s1 s2 s3 hq zx zy ho hV hoq
  go_enter Tryz.func8, Tryz.ntmps8
  go_wp2_with fail
  clear hW f0 f1 f2 g0 g1 g2 u0 u1 x0 x1 x2
  refine (HDF.out _ (Below.refl _ _)).mono ?_; rintro e w1 (⟨E, hE, rfl, b1⟩ | ⟨Cs, lo, lc, ll, rfl, hCs, hIl, hll, hkl, b1⟩)
  · have ht : (E != 0) = true := by simpa using hE
    have bC := (Below.refl _ w1).alloc (Nat.le_refl _) (.cells #[.bool false, .string ⟨#[]⟩] 50)
    have b2 := b1.trans (bC.mono b1.size)
    clear bC
    go_wp2_with fail
    go_ret2
    exact XTQ.bad hE rfl (hb.trans (b2.mono hb.size))
  obtain ⟨ga, gc, va, vc, qa, qc⟩ := a
  have hIB := IBL.new w1 false Cs
  have bC := (Below.refl _ w1).alloc (Nat.le_refl _) (.cells #[.bool false, .string Cs] 50)
  have b2 := b1.trans (bC.mono b1.size)
  have hIl2 := hIl.keepL (cells_keepL bC (Nat.le_refl _))
  have HCs := Lib.hid hCs
  have HKL := Lib.hid hkl
  have HLL := Lib.hid hll
  clear hIl bC b1 hCs hkl hll HDF
  go_upto_region 4 with fail
  generalize w1.heap.size = pc at hIB ⊢
  generalize World.alloc w1 _ = w5 at hIB hIl2 b2 ⊢
  have hF := HPB.new w5 #[.func (.func 28) #[] #[], .func (.func 29) #[] #[]] 75
  have bF := (Below.refl _ w5).alloc (Nat.le_refl _) (.cells #[.func (.func 28) #[] #[], .func (.func 29) #[] #[]] 75)
  have b6 := b2.trans (bF.mono b2.size)
  have x1 : (w5.alloc (.cells #[.func (.func 28) #[] #[], .func (.func 29) #[] #[]] 75)).cell? ⟨w.heap.size + 1, 1, none⟩ = some (.slice va S.V.length vc) := (HD.out _ b6).s.c1
  have hIB2 := hIB.below bF hIB.lt
  have hIl3 := hIl2.keepL (cells_keepL bF (Nat.le_refl _))
  clear hIB hIl2 bF b2
  go_wp2_with fail
  generalize w5.heap.size = pf at hF ⊢
  generalize World.alloc w5 _ = w6 at hF b6 x1 hIB2 hIl3 ⊢
  have HVv : Hid (NS w6 va S.V) := (HD.out _ b6).sS.v
  have HIl := Lib.hid hIl3
  have HF := Lib.hid hF
  have HIB := Lib.hid hIB2
  obtain ⟨i0, hi, hz0, hz1, hz2⟩ := info_parts info_int2
  have HII := Lib.hid (And.intro hi (And.intro hz0 (And.intro hz1 hz2)))
  have hR0 := IRL.start w6
  have HKD := Lib.hid (fun (b : ByteArray) (w' : World) => xkind_any b w')
  clear x1 hF hi hz0 hz1 hz2 hIB2 hIl3
  go_loopw [14, 38] (fun v14 v38 wr => ∃ j : Nat, j ≤ S.V.length ∧ v38 = .int .i64 (j : Int) ∧ ∃ l, IRL w6 wr v14 j l) (fun _ v38 _ => S.V.length - (intOf v38).toNat)
  case atStart => exact ⟨0, by omega, rfl, [], hR0⟩
  case round =>
    clear hR0
    obtain ⟨j, hj, rfl, l, hR⟩ := hrel
    have hB := hR.bl
    have hbw := b6.trans (hB.mono b6.size)
    by_cases hlt : j < S.V.length
    · obtain ⟨bv, ov, rfl, e0⟩ := (HVv.out.keepL (cells_keepL hB (Nat.le_refl _))) j hlt
      have hjA : j < ll.length := by rw [HLL.out]; exact hlt
      obtain ⟨ba, oa, rfl, r0, r1⟩ := (HIl.out.keepL (cells_keepL hB (Nat.le_refl _))) j hjA
      obtain ⟨ia, za⟩ := HKL.out _ (List.getElem_mem hjA)
      generalize ll[j] = A1 at r0 r1 ia za
      generalize S.V[j] = y' at e0
      obtain ⟨gA, sA⟩ := A1
      simp only at r0 r1 za
      have i1 : (0 : Int) ≤ (j : Int) := by omega
      have i4 : (j : Int) < (S.V.length : Int) := by omega
      have HM : Hid ((kdI y' = 0 ∧ ∀ w', Calls Tryz.prog 28 #[.string oq, .agg #[.bool gA, .string sA], .agg #[.bool false, .string Cs]] w' (IBQ w')) ∨ (kdI y' = 1 ∧ ∀ w', Calls Tryz.prog 29 #[.string oq, .agg #[.bool gA, .string sA], .agg #[.bool false, .string Cs]] w' (IBQ w'))) := by
        unfold kdI
        cases he : emB y'
        · exact .inr ⟨rfl, fun w' => iquot_any _ _ _ _ _ w' ia (iv_pos HCs.out) za⟩
        · exact .inl ⟨rfl, fun w' => mquot_any _ _ _ _ _ w' HO.out⟩
      have bN := (Below.refl _ wr).alloc (Nat.le_refl _) (.cells #[.string y'] 77)
      have y0 := (VrB.new wr y').c0
      have hR1 := hR.alloc (.cells #[.string y'] 77)
      have hFn := (HF.out.below hB).below bN
      have F0 : (wr.alloc (.cells #[.string y'] 77)).cell? ⟨pf, 0, none⟩ = some (.func (.func 28) #[] #[]) := by rw [Lib.cell_of_heap hFn]; rfl
      have F1 : (wr.alloc (.cells #[.string y'] 77)).cell? ⟨pf, 1, none⟩ = some (.func (.func 29) #[] #[]) := by rw [Lib.cell_of_heap hFn]; rfl
      have hCn := (HIB.out.below hB HIB.out.lt).below bN (HIB.out.below hB HIB.out.lt).lt
      have c0 := hCn.c0
      have c1 := hCn.c1
      have hbn0 := hbw.trans (bN.mono hbw.size)
      have hDn := HD.out _ hbn0
      have X0 : (wr.alloc (.cells #[.string y'] 77)).cell? ⟨w.heap.size + 1, 0, none⟩ = some (.slice ga S.G.length gc) := hDn.s.c0
      have X1 : (wr.alloc (.cells #[.string y'] 77)).cell? ⟨w.heap.size + 1, 1, none⟩ = some (.slice (some ⟨bv, ov, none⟩) S.V.length vc) := hDn.s.c1
      have X2 : (wr.alloc (.cells #[.string y'] 77)).cell? ⟨w.heap.size + 1, 2, none⟩ = some (.slice qa S.Q.length qc) := hDn.s.c2
      replace r0 := cells_keepL bN (Nat.le_refl _) _ _ r0
      replace r1 := cells_keepL bN (Nat.le_refl _) _ _ r1
      have HSS := Lib.hid hDn.sS
      clear hFn hDn ia za hjA hR hB hbw hCn
      go_wp2_with fail
      clear e0
      generalize hpv : wr.heap.size = pv at y0 bN ⊢
      generalize hw7 : World.alloc wr _ = w7 at y0 hR1 F0 F1 X0 X1 X2 c0 c1 r0 r1 hbn0 bN HSS ⊢
      replace HOR := Lib.hid (fun w' (h : Below w7.heap.size w7 w') => HOR.out w' (HSS.out.below h (Nat.le_refl _)))
      go_cut [17, 18] from 43 to 57 (fun v17 v18 wd => ∃ (p : Nat) (g : Bool) (s : ByteArray) (o : Bool), v17 = .pointer (some ⟨p, 0, none⟩) ∧ v18 = .bool o ∧ IBL wd p g s ∧ (o = true → ivB (g, s) = true ∧ s.size ≤ 25) ∧ Below w7.heap.size w7 wd)
      case first =>
        clear HVv HIl HF HII hR1 bN hbn0 HD HO HCs HLM HKL HLL HIB
        have HMK := Lib.hid (fun w' (hw : Below w7.heap.size w7 w') => (⟨cells_keepL hw (Nat.le_refl _) _ _ y0, cells_keepL hw (Nat.le_refl _) _ _ F0, cells_keepL hw (Nat.le_refl _) _ _ F1, cells_keepL hw (Nat.le_refl _) _ _ X0, cells_keepL hw (Nat.le_refl _) _ _ X1, cells_keepL hw (Nat.le_refl _) _ _ X2, cells_keepL hw (Nat.le_refl _) _ _ c0, cells_keepL hw (Nat.le_refl _) _ _ c1, cells_keepL hw (Nat.le_refl _) _ _ r0, cells_keepL hw (Nat.le_refl _) _ _ r1, hw⟩ : w'.cell? ⟨pv, 0, none⟩ = some (.string y') ∧ w'.cell? ⟨pf, 0, none⟩ = some (.func (.func 28) #[] #[]) ∧ w'.cell? ⟨pf, 1, none⟩ = some (.func (.func 29) #[] #[]) ∧ w'.cell? ⟨w.heap.size + 1, 0, none⟩ = some (.slice ga S.G.length gc) ∧ w'.cell? ⟨w.heap.size + 1, 1, none⟩ = some (.slice (some ⟨bv, ov, none⟩) S.V.length vc) ∧ w'.cell? ⟨w.heap.size + 1, 2, none⟩ = some (.slice qa S.Q.length qc) ∧ w'.cell? ⟨pc, 0, none⟩ = some (.bool false) ∧ w'.cell? ⟨pc, 1, none⟩ = some (.string Cs) ∧ w'.cell? ⟨ba, oa + j * 2, none⟩ = some (.bool gA) ∧ w'.cell? ⟨ba, oa + j * 2 + 1, none⟩ = some (.string sA) ∧ Below w7.heap.size w7 w'))
        rcases HM.out with ⟨hk, hM⟩ | ⟨hk, hM⟩
        · have HKy := Lib.hid (HKD.out y')
          rw [hk] at HKy
          have HMM := Lib.hid hM
          clear hk hM HKD
          go_region_held3 (fun w' => w'.cell? ⟨pv, 0, none⟩ = some (.string y') ∧ w'.cell? ⟨pf, 0, none⟩ = some (.func (.func 28) #[] #[]) ∧ w'.cell? ⟨pf, 1, none⟩ = some (.func (.func 29) #[] #[]) ∧ w'.cell? ⟨w.heap.size + 1, 0, none⟩ = some (.slice ga S.G.length gc) ∧ w'.cell? ⟨w.heap.size + 1, 1, none⟩ = some (.slice (some ⟨bv, ov, none⟩) S.V.length vc) ∧ w'.cell? ⟨w.heap.size + 1, 2, none⟩ = some (.slice qa S.Q.length qc) ∧ w'.cell? ⟨pc, 0, none⟩ = some (.bool false) ∧ w'.cell? ⟨pc, 1, none⟩ = some (.string Cs) ∧ w'.cell? ⟨ba, oa + j * 2, none⟩ = some (.bool gA) ∧ w'.cell? ⟨ba, oa + j * 2 + 1, none⟩ = some (.string sA) ∧ Below w7.heap.size w7 w')
            (first | assumption | (refine HMK.out _ ?_; repeat' (first | assumption | with_reducible exact Below.refl _ _ | with_reducible refine Below.drew ?_ | with_reducible refine Below.alloc ?_ (by first | with_reducible exact hbm.size | with_reducible exact hbo.size | with_reducible exact hbn.size | (simp; done) | (simp; omega)) _ | with_reducible refine Below.setCell ?_ (by first | exact hbn.size | exact hbo.size | exact hbm.size | (simp; done) | (simp; omega)) _)))
            (first
              | (go_at_call 30; (with_reducible refine (HKy.out _).mono ?_); rintro e wn ⟨rfl, bn⟩; (first | (have hbn : Below w7.heap.size w7 wn := (Below.refl _ w7).drew.trans (bn.mono (Nat.le_refl _))) | (have hbn : Below w7.heap.size w7 wn := ((Below.refl _ w7).alloc (Nat.le_refl _) (.cells #[.bool false, .string ⟨#[]⟩] 50)).drew.trans (bn.mono (by simp)); have hrn := (RBox.new w7).drew.below bn (RBox.new w7).lt)))
              | (go_at_call 31; (first | (with_reducible refine (HOR.out _ hbn).mono ?_) | (with_reducible refine (HOR.out _ (hbn.alloc hbn.size (.cells #[.bool false, .string ⟨#[]⟩] 50))).mono ?_)); rintro e wo ⟨rfl, bo⟩; (first | (have hro := hrn.below bo hrn.lt; have hbo : Below w7.heap.size w7 wo := hbn.trans (bo.mono hbn.size)) | (have hbo : Below w7.heap.size w7 wo := hbn.trans (bo.mono hbn.size)) | (have hro := (RBox.new wn).below bo (RBox.new wn).lt; have hbo : Below w7.heap.size w7 wo := (hbn.alloc hbn.size (.cells #[.bool false, .string ⟨#[]⟩] 50)).trans (bo.mono (hbn.alloc hbn.size (.cells #[.bool false, .string ⟨#[]⟩] 50)).size))))
              | (go_at_call 28; (with_reducible refine (HMM.out _).mono ?_); rintro e wm ⟨g', s', o', rfl, hI', bm⟩; (first | (have hrm := hro.below bm hro.lt; have hbm : Below w7.heap.size w7 wm := hbo.trans (bm.mono hbo.size); have z0 := hrm.c0; have z1 := hrm.c1; have z3 := hrm.f0; have z4 := hrm.f1) | (have hbm : Below w7.heap.size w7 wm := hbo.trans (bm.mono hbo.size)) | (have hrm := (RBox.new wo).below bm (RBox.new wo).lt; have hbm : Below w7.heap.size w7 wm := (hbo.alloc hbo.size (.cells #[.bool false, .string ⟨#[]⟩] 50)).trans (bm.mono (hbo.alloc hbo.size (.cells #[.bool false, .string ⟨#[]⟩] 50)).size); have z0 := hrm.c0; have z1 := hrm.c1; have z3 := hrm.f0; have z4 := hrm.f1))))
          all_goals
            have HI' := Lib.hid hI'
            clear hI'
            go_wp2_with fail
            go_meet
            first
              | exact ⟨_, _, _, _, rfl, rfl, put2 hrm, HI'.out, (hbm.setCell (p := ⟨w7.heap.size, 0, none⟩) (Nat.le_refl _) _).setCell (p := ⟨w7.heap.size, 1, none⟩) (Nat.le_refl _) _⟩
              | exact ⟨_, _, _, _, rfl, rfl, put2 hrm, HI'.out, (hbm.setCell (p := ⟨wn.heap.size, 0, none⟩) hbn.size _).setCell (p := ⟨wn.heap.size, 1, none⟩) hbn.size _⟩
              | exact ⟨_, _, _, _, rfl, rfl, put2 hrm, HI'.out, (hbm.setCell (p := ⟨wo.heap.size, 0, none⟩) hbo.size _).setCell (p := ⟨wo.heap.size, 1, none⟩) hbo.size _⟩
              | exact ⟨_, _, _, _, rfl, rfl, IBL.new wm g' s', HI'.out, hbm.alloc hbm.size _⟩
        · have HKy := Lib.hid (HKD.out y')
          rw [hk] at HKy
          have HMM := Lib.hid hM
          clear hk hM HKD
          go_region_held3 (fun w' => w'.cell? ⟨pv, 0, none⟩ = some (.string y') ∧ w'.cell? ⟨pf, 0, none⟩ = some (.func (.func 28) #[] #[]) ∧ w'.cell? ⟨pf, 1, none⟩ = some (.func (.func 29) #[] #[]) ∧ w'.cell? ⟨w.heap.size + 1, 0, none⟩ = some (.slice ga S.G.length gc) ∧ w'.cell? ⟨w.heap.size + 1, 1, none⟩ = some (.slice (some ⟨bv, ov, none⟩) S.V.length vc) ∧ w'.cell? ⟨w.heap.size + 1, 2, none⟩ = some (.slice qa S.Q.length qc) ∧ w'.cell? ⟨pc, 0, none⟩ = some (.bool false) ∧ w'.cell? ⟨pc, 1, none⟩ = some (.string Cs) ∧ w'.cell? ⟨ba, oa + j * 2, none⟩ = some (.bool gA) ∧ w'.cell? ⟨ba, oa + j * 2 + 1, none⟩ = some (.string sA) ∧ Below w7.heap.size w7 w')
            (first | assumption | (refine HMK.out _ ?_; repeat' (first | assumption | with_reducible exact Below.refl _ _ | with_reducible refine Below.drew ?_ | with_reducible refine Below.alloc ?_ (by first | with_reducible exact hbm.size | with_reducible exact hbo.size | with_reducible exact hbn.size | (simp; done) | (simp; omega)) _ | with_reducible refine Below.setCell ?_ (by first | exact hbn.size | exact hbo.size | exact hbm.size | (simp; done) | (simp; omega)) _)))
            (first
              | (go_at_call 30; (with_reducible refine (HKy.out _).mono ?_); rintro e wn ⟨rfl, bn⟩; (first | (have hbn : Below w7.heap.size w7 wn := (Below.refl _ w7).drew.trans (bn.mono (Nat.le_refl _))) | (have hbn : Below w7.heap.size w7 wn := ((Below.refl _ w7).alloc (Nat.le_refl _) (.cells #[.bool false, .string ⟨#[]⟩] 50)).drew.trans (bn.mono (by simp)); have hrn := (RBox.new w7).drew.below bn (RBox.new w7).lt)))
              | (go_at_call 31; (first | (with_reducible refine (HOR.out _ hbn).mono ?_) | (with_reducible refine (HOR.out _ (hbn.alloc hbn.size (.cells #[.bool false, .string ⟨#[]⟩] 50))).mono ?_)); rintro e wo ⟨rfl, bo⟩; (first | (have hro := hrn.below bo hrn.lt; have hbo : Below w7.heap.size w7 wo := hbn.trans (bo.mono hbn.size)) | (have hbo : Below w7.heap.size w7 wo := hbn.trans (bo.mono hbn.size)) | (have hro := (RBox.new wn).below bo (RBox.new wn).lt; have hbo : Below w7.heap.size w7 wo := (hbn.alloc hbn.size (.cells #[.bool false, .string ⟨#[]⟩] 50)).trans (bo.mono (hbn.alloc hbn.size (.cells #[.bool false, .string ⟨#[]⟩] 50)).size))))
              | (go_at_call 29; (with_reducible refine (HMM.out _).mono ?_); rintro e wm ⟨g', s', o', rfl, hI', bm⟩; (first | (have hrm := hro.below bm hro.lt; have hbm : Below w7.heap.size w7 wm := hbo.trans (bm.mono hbo.size); have z0 := hrm.c0; have z1 := hrm.c1; have z3 := hrm.f0; have z4 := hrm.f1) | (have hbm : Below w7.heap.size w7 wm := hbo.trans (bm.mono hbo.size)) | (have hrm := (RBox.new wo).below bm (RBox.new wo).lt; have hbm : Below w7.heap.size w7 wm := (hbo.alloc hbo.size (.cells #[.bool false, .string ⟨#[]⟩] 50)).trans (bm.mono (hbo.alloc hbo.size (.cells #[.bool false, .string ⟨#[]⟩] 50)).size); have z0 := hrm.c0; have z1 := hrm.c1; have z3 := hrm.f0; have z4 := hrm.f1))))
          all_goals
            have HI' := Lib.hid hI'
            clear hI'
            go_wp2_with fail
            go_meet
            first
              | exact ⟨_, _, _, _, rfl, rfl, put2 hrm, HI'.out, (hbm.setCell (p := ⟨w7.heap.size, 0, none⟩) (Nat.le_refl _) _).setCell (p := ⟨w7.heap.size, 1, none⟩) (Nat.le_refl _) _⟩
              | exact ⟨_, _, _, _, rfl, rfl, put2 hrm, HI'.out, (hbm.setCell (p := ⟨wn.heap.size, 0, none⟩) hbn.size _).setCell (p := ⟨wn.heap.size, 1, none⟩) hbn.size _⟩
              | exact ⟨_, _, _, _, rfl, rfl, put2 hrm, HI'.out, (hbm.setCell (p := ⟨wo.heap.size, 0, none⟩) hbo.size _).setCell (p := ⟨wo.heap.size, 1, none⟩) hbo.size _⟩
              | exact ⟨_, _, _, _, rfl, rfl, IBL.new wm g' s', HI'.out, hbm.alloc hbm.size _⟩
      case rest =>
        obtain ⟨p, g, s, o, rfl, rfl, hIB, hI, kb⟩ := hcut
        rename World => w8
        have HI := Lib.hid hI
        have b8 := hbn0.trans (kb.mono hbn0.size)
        have hR2 := hR1.below (kb.mono (by rw [← hw7, World.size_alloc]; omega))
        clear hR1 y0 F0 F1 X0 X1 X2 c0 c1 r0 r1 HM hI HOR HKD kb bN hbn0 HSS HVv HIl HIB HF HLM
        cases o
        · clear hR2 hw7 hpv
          go_wp2_with fail
          go_ret2
          exact XTQ.bad (E := 17) (by decide) rfl (hb.trans (b8.mono hb.size))
        have hR4 := hR2.alloc (.cells #[.bool g, .string s] 50)
        have m0 := hIB.c0
        have m1 := hIB.c1
        have hNC := IBL.new w8 g s
        obtain ⟨hi, hz0, hz1, hz2⟩ := HII.out
        clear hR2 hIB hw7 hpv b8
        go_wp2_with (at_builtin; refine wpList_append_own _ rfl (.tmp 60) (.tmp 62) 32 rfl w6.heap.size 50 i0 (.agg #[.bool false, .string ⟨#[]⟩]) 2 24 Tryz.underlying32 hi hz0 hz1 hz2 rfl (by decide) u14 j (icl l) rfl hR4.o ⟨w8.heap.size, 0, none⟩ 1 1 [.bool g, .string s] rfl rfl (two_cellV hNC.c0 hNC.c1) ?o1 ?o2 ?o3 hR4.bl.size ?_; (case o1 => simp [Value.oneCell']); (case o2 => unfold maxLen; omega); (case o3 => omega); intro v1 w9 hown hgrow _; have hR5 := hR4.app (HI.out rfl) hgrow hown)
        exact ⟨⟨j + 1, by omega, by go_num, _, hR5⟩, by simp [intOf]; omega⟩
    obtain rfl : j = S.V.length := by omega
    obtain ⟨ab, cc, rfl, hI⟩ := own_IS hR.o
    have HR := Lib.hid (And.intro hR.n hR.k)
    obtain ⟨w7, rfl⟩ : ∃ w7 : World, w7 = wr := ⟨_, rfl⟩
    have hsz : SzL l := fun r hr => Nat.le_trans (HR.out.2 r hr).2 (by omega)
    have HLI := Lib.hid (HLM.out w7 hbw ab cc l hI HR.out.1 hsz)
    have HIN := Lib.hid (fun (h : rdE S.pl l = 0) => (show imgS S.pl l = imS S.pl l from by unfold imgS; rw [if_pos h]))
    obtain ⟨Z, hZ⟩ : ∃ Z, rdE S.pl l = Z := ⟨_, rfl⟩
    obtain ⟨I, hIM⟩ : ∃ I, imgS S.pl l = I := ⟨_, rfl⟩
    rw [hZ, hIM] at HLI HIN
    have HZ := Lib.hid hZ
    have HSZ := Lib.hid hsz
    have X0 : w7.cell? ⟨w.heap.size + 1, 0, none⟩ = some (.slice ga S.G.length gc) := (HD.out _ hbw).s.c0
    have X1 : w7.cell? ⟨w.heap.size + 1, 1, none⟩ = some (.slice va S.V.length vc) := (HD.out _ hbw).s.c1
    have X2 : w7.cell? ⟨w.heap.size + 1, 2, none⟩ = some (.slice qa S.Q.length qc) := (HD.out _ hbw).s.c2
    have HI7 := Lib.hid hI
    clear hR hB hsz hZ hIM hI HVv HIl HF HIB HII HKD HLM HOR HO HCs HKL HLL hlt hj
    go_wp2_with fail
    refine HLI.out.mono ?_; rintro e w8 ⟨io, m, ic, rfl, hm, hN, b8⟩
    have hb8 := hbw.trans (b8.mono hbw.size)
    have HI8 := Lib.hid (HI7.out.keepL (cells_keepL b8 (Nat.le_refl _)))
    clear X0 X1 X2 HLI HI7 hbw b8
    by_cases h0 : Z = 0
    rotate_left
    · have ht : (Z != 0) = true := by simpa using h0
      go_wp2_with fail
      go_ret2
      exact XTQ.bad h0 rfl (hb.trans (hb8.mono hb.size))
    subst h0
    have hIe := HIN.out rfl
    subst hIe
    have hml : m = S.Q.length := hm.trans (by unfold imS; rw [List.length_map, StM.pl_Q, List.length_map])
    subst hml
    have X2 : w8.cell? ⟨w.heap.size + 1, 2, none⟩ = some (.slice qa S.Q.length qc) := (HD.out _ hb8).s.c2
    have HQq : Hid (QSl w8 qa S.Q) := (HD.out _ hb8).sS.q
    have HN := Lib.hid hN
    have hIl : (imS S.pl l).length = S.Q.length := by unfold imS; rw [List.length_map, StM.pl_Q, List.length_map]
    have HIL := Lib.hid hIl
    generalize hIM : imS S.pl l = I at HN HIL
    have HIM := Lib.hid hIM
    have HT0 : Hid (I.take 0 = (S.Q.map (·.2.1)).take 0) := rfl
    clear hm hN hIl HIN hIM
    go_wp2_with fail
    go_loopw [77] (fun v77 wr => ∃ k : Nat, k ≤ S.Q.length ∧ v77 = .int .i64 (k : Int) ∧ Hid (I.take k = (S.Q.map (·.2.1)).take k) ∧ Below w8.heap.size w8 wr) (fun v77 _ => S.Q.length - (intOf v77).toNat)
    case atStart => exact ⟨0, by omega, rfl, HT0, Below.refl _ _⟩
    case round =>
      clear HT0
      obtain ⟨k, hk, rfl, hT, hB⟩ := hrel
      have hbv := hb8.trans (hB.mono hb8.size)
      by_cases hlt : k < S.Q.length
      · have hkI : k < I.length := by rw [HIL.out]; exact hlt
        obtain ⟨bq, oq', rfl, e0, e1, e2, hTT⟩ := (HQq.out.keep (cells_keepL hB (Nat.le_refl _))) k hlt
        obtain ⟨bi, oi, rfl, m0⟩ := (HN.out.keepL (cells_keepL hB (Nat.le_refl _))) k hkI
        have hst : I[k] = S.Q[k].2.1 → I.take (k + 1) = (S.Q.map (·.2.1)).take (k + 1) := fun h => by
          rw [List.take_succ_eq_append_getElem hkI, List.take_succ_eq_append_getElem (by rw [List.length_map]; exact hlt), hT.out, List.getElem_map, h]
        clear hTT hT
        generalize I[k] = Y at m0 hst
        generalize S.Q[k] = xq at e0 e1 e2 hst
        obtain ⟨i, T, ta, tc, Lq⟩ := xq
        simp only at e0 e1 e2 hst
        have HST := Lib.hid hst
        clear hst
        have i3 : (0 : Int) ≤ (k : Int) := by omega
        have i5 : (k : Int) < (S.Q.length : Int) := by omega
        have bN := (Below.refl _ wr).alloc (Nat.le_refl _) (.cells #[.int .i64 i, .string T, .slice ta Lq.length tc] 68)
        have q1 := (QB.new wr i T (.slice ta Lq.length tc)).c1
        go_wp2_with fail
        replace m0 := cells_keepL bN (Nat.le_refl _) _ _ m0
        have hbn := hbv.trans (bN.mono hbv.size)
        have hBn := hB.trans (bN.mono hB.size)
        clear e0 e1 e2 bN hB hbv hkI
        generalize wr.heap.size = q at q1 ⊢
        generalize World.alloc wr _ = wa at q1 m0 hbn hBn ⊢
        cases hbb : (Y.toList == T.toList)
        · have hbb2 : ¬ Y.toList = T.toList := by simpa using hbb
          go_quiet (fail)
          go_wp2_with fail
          go_ret2
          exact XTQ.bad (E := 17) (by decide) rfl ((hb.trans (hbn.mono hb.size)).trans (Below.drewNX _ _ _))
        · have hbb2 : Y.toList = T.toList := by simpa using hbb
          go_quiet (fail)
          go_wp2_with fail
          exact ⟨⟨k + 1, by omega, by go_num, HST.out (tl_eqX hbb2), hBn.trans (Below.drewNX _ _ _)⟩, by simp [intOf]; omega⟩
      obtain rfl : k = S.Q.length := by omega
      have hfin : imS S.pl l = S.Q.map (·.2.1) := by
        have h := hT.out
        rw [List.take_of_length_le (by rw [HIL.out]; omega), List.take_of_length_le (by rw [List.length_map]; omega)] at h
        exact HIM.out.trans h
      have HFI := Lib.hid hfin
      have HI9 := Lib.hid (HI8.out.keepL (cells_keepL hB (Nat.le_refl _)))
      clear hfin hT hB
      go_wp2_with fail
      go_ret2
      exact XTQ.ok rfl HI9.out HZ.out HSZ.out HFI.out (hb.trans (hbv.mono hb.size))
end Go.Proofs.YtdlbnioidfhhcaaGreat
