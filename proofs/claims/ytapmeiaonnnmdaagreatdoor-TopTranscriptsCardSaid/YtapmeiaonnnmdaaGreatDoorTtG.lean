import Derived.Test.YtapmeiaonnnmdaaGreatDoorTtD
/- sigma.respond at a statement with one integer variable. -/
namespace Go.Proofs.YtapmeiaonnnmdaaGreatDoor
open Go.RowKit Num
set_option maxRecDepth 20000
set_option linter.unusedVariables false
/-- what respond answers -/
def RSP (y : Int) (t : Nat) (w : World) : Ending → World → Prop := fun e w' =>
  (y.natAbs < t ∧ ∃ ao ac, e = .returned (.tuple #[.slice ao 1 ac, .int .i64 0]) ∧ IS w' ao [(zb y, zs y)] ∧ Below w.heap.size w w') ∨
  (¬ y.natAbs < t ∧ e = .returned (.tuple #[.slice none 0 0, .int .i64 15]) ∧ Below w.heap.size w w')
theorem RSP.yes {y : Int} {t : Nat} {w w' : World} {e : Ending} {ao : Option Addr} {ac : Nat} (h : y.natAbs < t) (he : e = .returned (.tuple #[.slice ao 1 ac, .int .i64 0])) (hi : IS w' ao [(zb y, zs y)]) (hb : Below w.heap.size w w') : RSP y t w e w' := .inl ⟨h, ao, ac, he, hi, hb⟩
theorem RSP.no {y : Int} {t : Nat} {w w' : World} {e : Ending} (h : ¬ y.natAbs < t) (he : e = .returned (.tuple #[.slice none 0 0, .int .i64 15])) (hb : Below w.heap.size w w') : RSP y t w e w' := .inr ⟨h, he, hb⟩
set_option maxHeartbeats 8000000 in
theorem srespond_one (a : StA) (S : StM) (b : ByteArray) (lo wo mo : Option Addr) (lc wc0 mc t c : Nat) (M : ByteArray) (v z : Int) (w : World) (hS : SS w a S) (hV : S.V = [b]) (he : emB b = false) (hl : GSl w lo [(M, enc t)]) (hwi : IS w wo [(zb v, zs v)]) (hmi : IS w mo [(zb z, zs z)]) (ht : t < 65536) (hc : c < 65536) (hv : v.natAbs < 65536) (hz : z.natAbs < 65536) (hcv : ((c : Int) * v).natAbs < 65536) (hy : (z + c * v).natAbs < 65536) :
    Calls Tryz.prog 38 #[.agg #[.slice a.ga S.G.length a.gc, .slice a.va S.V.length a.vc, .slice a.qa S.Q.length a.qc], .slice lo 1 lc, .slice wo 1 wc0, .slice mo 1 mc, .string (enc c)] w (RSP (z + c * v) t w) := by
  have HK := Lib.hid (fun w' => skind_any b w')
  unfold kdI at HK
  rw [if_neg (by rw [he]; decide)] at HK
  have HF := Lib.hid (fun w' => from_z c w' (sN hc).le)
  rw [zbN, zsN] at HF
  have HM := Lib.hid (fun w' => imul_z (c : Int) v w' (sZ (by omega)) (sZ hv) (sZ hcv))
  rw [zbN, zsN] at HM
  have HA := Lib.hid (fun w' => iadd_z z ((c : Int) * v) w' (sZ hz) (sZ hcv) (sZ hy))
  have HB := Lib.hid (fun w' => sbelow_any b (zb (z + c * v)) (zs (z + c * v)) (enc t) (z + c * v).natAbs t w' (sZ hy).isN (sN ht))
  have hbl : blB b (zb (z + c * v)) (z + c * v).natAbs t = decide ((z + c * v).natAbs < t) := by unfold blB; rw [he]; simp
  rw [hbl] at HB
  have hb := (Below.refl _ w).alloc (Nat.le_refl _) (.cells #[.slice a.ga S.G.length a.gc, .slice a.va S.V.length a.vc, .slice a.qa S.Q.length a.qc] 49)
  have hX := SXB.new w a S
  have hVS := hS.v.keepL (cells_keepL hb (Nat.le_refl _))
  have hls := hl.keep (cells_keepL hb (Nat.le_refl _))
  have hws := hwi.keepL (cells_keepL hb (Nat.le_refl _))
  have hms := hmi.keepL (cells_keepL hb (Nat.le_refl _))
  have hn : S.V.length = 1 := by rw [hV]; rfl
  rw [hV] at hVS
  have hX1 := hX.c1
  simp only [hn] at hb hVS hls hws hms hX1 ⊢
  obtain ⟨lb, lof, rfl, e1, e2⟩ := hls 0 (by simp)
  obtain ⟨wb, wof, rfl, f1, f2⟩ := hws 0 (by simp)
  obtain ⟨mb, mof, rfl, g1, g2⟩ := hms 0 (by simp)
  simp only [Nat.zero_mul, Nat.add_zero, List.getElem_cons_zero] at e1 e2 f1 f2 g1 g2
  clear hS hl hwi hmi ht hc hv hz hcv hbl hls hws hms hX
  obtain ⟨y, hyy⟩ : ∃ y : Int, z + c * v = y := ⟨_, rfl⟩
  obtain ⟨u, huu⟩ : ∃ u : Int, (c : Int) * v = u := ⟨_, rfl⟩
  rw [hyy] at HA HB ⊢
  rw [huu] at HM HA
  clear hyy huu hy
  obtain ⟨ga, gc, va, vc, qa, qc⟩ := a
  simp only at hb hVS e1 e2 f1 f2 g1 g2 hX1 ⊢
  obtain ⟨vb, vof, rfl, e0⟩ := hVS 0 (by simp)
  simp only [Nat.add_zero, List.getElem_cons_zero] at e0
  obtain ⟨ng, hng⟩ : ∃ n, S.G.length = n := ⟨_, rfl⟩
  obtain ⟨nqq, hnq⟩ : ∃ n, S.Q.length = n := ⟨_, rfl⟩
  simp only [hng, hnq] at hb e0 e1 e2 f1 f2 g1 g2 hX1 ⊢
  clear hng hnq hVS hV hn
  go_enter Tryz.func38, Tryz.ntmps38
  go_wp2_with fail
  generalize hW : World.alloc w _ = W at hb e0 e1 e2 f1 f2 g1 g2 hX1 ⊢
  clear hW
  have bV := (Below.refl _ W).alloc (Nat.le_refl _) (.cells #[.string b] 40)
  have hY := VrB.new W b
  have hy0 := hY.c0
  refine wp_loop_rounds 2 ?_
  rw [rounds_succ]
  go_wp2_with fail
  replace hb := hb.trans (bV.mono hb.size)
  replace e1 := cells_keepL bV (Nat.le_refl _) _ _ e1
  replace e2 := cells_keepL bV (Nat.le_refl _) _ _ e2
  replace f1 := cells_keepL bV (Nat.le_refl _) _ _ f1
  replace f2 := cells_keepL bV (Nat.le_refl _) _ _ f2
  replace g1 := cells_keepL bV (Nat.le_refl _) _ _ g1
  replace g2 := cells_keepL bV (Nat.le_refl _) _ _ g2
  clear e0 hX1 bV hY
  generalize W.heap.size = q at hy0 ⊢
  generalize World.alloc W _ = W1 at hb e1 e2 f1 f2 g1 g2 hy0 ⊢
  refine (HK.out _).mono ?_; rintro e w2 ⟨rfl, b2⟩
  replace hb := hb.trans (b2.mono hb.size)
  replace e1 := cells_keepL b2 (Nat.le_refl _) _ _ e1
  replace e2 := cells_keepL b2 (Nat.le_refl _) _ _ e2
  replace f1 := cells_keepL b2 (Nat.le_refl _) _ _ f1
  replace f2 := cells_keepL b2 (Nat.le_refl _) _ _ f2
  replace g1 := cells_keepL b2 (Nat.le_refl _) _ _ g1
  replace g2 := cells_keepL b2 (Nat.le_refl _) _ _ g2
  replace hy0 := cells_keepL b2 (Nat.le_refl _) _ _ hy0
  clear b2 HK
  go_wp2_with fail
  go_cut [23, 24] from 86 to 95 (fun v23 v24 wc => ∃ p : Nat, v23 = .pointer (some ⟨p, 0, none⟩) ∧ v24 = .int .i64 0 ∧ IBL wc p (zb u) (zs u) ∧ Below w2.heap.size w2 wc)
  case first =>
    clear HA HB
    have HMK := Lib.hid (fun w' (hw : Below w2.heap.size w2 w') => (⟨cells_keepL hw (Nat.le_refl _) _ _ f1, cells_keepL hw (Nat.le_refl _) _ _ f2, hw⟩ : w'.cell? ⟨wb, wof, none⟩ = some (.bool (zb v)) ∧ w'.cell? ⟨wb, wof + 1, none⟩ = some (.string (zs v)) ∧ Below w2.heap.size w2 w'))
    go_region_held3 (fun w' => w'.cell? ⟨wb, wof, none⟩ = some (.bool (zb v)) ∧ w'.cell? ⟨wb, wof + 1, none⟩ = some (.string (zs v)) ∧ Below w2.heap.size w2 w')
      (first | assumption | (refine HMK.out _ ?_; repeat' (first | assumption | with_reducible exact Below.refl _ _ | with_reducible refine Below.drew ?_ | with_reducible refine Below.alloc ?_ (by first | with_reducible exact hbm.size | with_reducible exact hbn.size | (simp; done) | (simp; omega)) _ | with_reducible refine Below.setCell ?_ (by first | exact hbn.size | (simp; done) | (simp; omega)) _)))
      (first
        | (go_at_call 25; (with_reducible refine (HF.out _).mono ?_); rintro e wn ⟨rfl, bn⟩; (first | (have hbn : Below w2.heap.size w2 wn := (Below.refl _ w2).drew.trans (bn.mono (Nat.le_refl _))) | (have hbn : Below w2.heap.size w2 wn := ((Below.refl _ w2).alloc (Nat.le_refl _) (.cells #[.bool false, .string ⟨#[]⟩] 36)).drew.trans (bn.mono (by simp)); have hrn := (IBL.new w2 false ⟨#[]⟩).drew.below bn (IBL.new w2 false ⟨#[]⟩).lt)))
        | (go_at_call 66; (with_reducible refine (HM.out _).mono ?_); rintro e wm ⟨rfl, bm⟩; (first | (have hrm := hrn.below bm hrn.lt; have hbm : Below w2.heap.size w2 wm := hbn.trans (bm.mono hbn.size); have z0 := hrm.c0; have z1 := hrm.c1; have z3 := hrm.f0; have z4 := hrm.f1) | (have hrm := (IBL.new wn false ⟨#[]⟩).below bm (IBL.new wn false ⟨#[]⟩).lt; have hbm : Below w2.heap.size w2 wm := (hbn.alloc hbn.size (.cells #[.bool false, .string ⟨#[]⟩] 36)).trans (bm.mono (hbn.alloc hbn.size (.cells #[.bool false, .string ⟨#[]⟩] 36)).size); have z0 := hrm.c0; have z1 := hrm.c1; have z3 := hrm.f0; have z4 := hrm.f1) | (have hbm : Below w2.heap.size w2 wm := hbn.trans (bm.mono hbn.size)))))
    all_goals
      go_wp2_with fail
      go_meet
      first
        | exact ⟨_, rfl, rfl, hrm.put _ _, (hbm.setCell (p := ⟨w2.heap.size, 0, none⟩) (Nat.le_refl _) _).setCell (p := ⟨w2.heap.size, 1, none⟩) (Nat.le_refl _) _⟩
        | exact ⟨_, rfl, rfl, hrm.put _ _, (hbm.setCell (p := ⟨wn.heap.size, 0, none⟩) hbn.size _).setCell (p := ⟨wn.heap.size, 1, none⟩) hbn.size _⟩
        | exact ⟨_, rfl, rfl, IBL.new wm _ _, hbm.alloc hbm.size _⟩
  case rest =>
    obtain ⟨p, rfl, rfl, hU, hBc⟩ := hcut
    rename World => w3
    replace hb := hb.trans (hBc.mono hb.size)
    replace e1 := cells_keepL hBc (Nat.le_refl _) _ _ e1
    replace e2 := cells_keepL hBc (Nat.le_refl _) _ _ e2
    replace g1 := cells_keepL hBc (Nat.le_refl _) _ _ g1
    replace g2 := cells_keepL hBc (Nat.le_refl _) _ _ g2
    replace hy0 := cells_keepL hBc (Nat.le_refl _) _ _ hy0
    clear f1 f2 HF HM hBc
    have p0 := hU.c0
    have p1 := hU.c1
    go_wp2_with fail
    go_cut [25, 26] from 96 to 104 (fun v25 v26 wc => ∃ p : Nat, v25 = .pointer (some ⟨p, 0, none⟩) ∧ v26 = .int .i64 0 ∧ IBL wc p (zb y) (zs y) ∧ Below w3.heap.size w3 wc)
    case first =>
      clear HB
      have HMK := Lib.hid (fun w' (hw : Below w3.heap.size w3 w') => (⟨cells_keepL hw (Nat.le_refl _) _ _ g1, cells_keepL hw (Nat.le_refl _) _ _ g2, cells_keepL hw (Nat.le_refl _) _ _ p0, cells_keepL hw (Nat.le_refl _) _ _ p1, hw⟩ : w'.cell? ⟨mb, mof, none⟩ = some (.bool (zb z)) ∧ w'.cell? ⟨mb, mof + 1, none⟩ = some (.string (zs z)) ∧ w'.cell? ⟨p, 0, none⟩ = some (.bool (zb u)) ∧ w'.cell? ⟨p, 1, none⟩ = some (.string (zs u)) ∧ Below w3.heap.size w3 w'))
      go_region_held3 (fun w' => w'.cell? ⟨mb, mof, none⟩ = some (.bool (zb z)) ∧ w'.cell? ⟨mb, mof + 1, none⟩ = some (.string (zs z)) ∧ w'.cell? ⟨p, 0, none⟩ = some (.bool (zb u)) ∧ w'.cell? ⟨p, 1, none⟩ = some (.string (zs u)) ∧ Below w3.heap.size w3 w')
        (first | assumption | (refine HMK.out _ ?_; repeat' (first | assumption | with_reducible exact Below.refl _ _ | with_reducible refine Below.drew ?_ | with_reducible refine Below.alloc ?_ (by first | with_reducible exact hbn.size | (simp; done) | (simp; omega)) _ | with_reducible refine Below.setCell ?_ (by first | exact hbn.size | (simp; done) | (simp; omega)) _)))
        ((go_at_call 68; (with_reducible refine (HA.out _).mono ?_); rintro e wn ⟨rfl, bn⟩; (first | (have hbn : Below w3.heap.size w3 wn := (Below.refl _ w3).drew.trans (bn.mono (Nat.le_refl _)); have hrn := trivial) | (have hbn : Below w3.heap.size w3 wn := ((Below.refl _ w3).alloc (Nat.le_refl _) (.cells #[.bool false, .string ⟨#[]⟩] 36)).drew.trans (bn.mono (by simp)); have hrn := (IBL.new w3 false ⟨#[]⟩).drew.below bn (IBL.new w3 false ⟨#[]⟩).lt; have z0 := hrn.c0; have z1 := hrn.c1; have z3 := hrn.f0; have z4 := hrn.f1))))
      all_goals
        go_wp2_with fail
        go_meet
        first
          | exact ⟨_, rfl, rfl, hrn.put _ _, (hbn.setCell (p := ⟨w3.heap.size, 0, none⟩) (Nat.le_refl _) _).setCell (p := ⟨w3.heap.size, 1, none⟩) (Nat.le_refl _) _⟩
          | exact ⟨_, rfl, rfl, IBL.new wn _ _, hbn.alloc hbn.size _⟩
    case rest =>
      obtain ⟨p', rfl, rfl, hY', hBc⟩ := hcut
      rename World => w4
      replace hb := hb.trans (hBc.mono hb.size)
      replace e1 := cells_keepL hBc (Nat.le_refl _) _ _ e1
      replace e2 := cells_keepL hBc (Nat.le_refl _) _ _ e2
      replace hy0 := cells_keepL hBc (Nat.le_refl _) _ _ hy0
      clear g1 g2 HA hBc p0 p1 hU
      have p0 := hY'.c0
      have p1 := hY'.c1
      go_wp2_with fail
      obtain ⟨V, hV⟩ : ∃ V, decide (y.natAbs < t) = V := ⟨_, rfl⟩
      rw [hV] at HB
      have HV := Lib.hid hV
      clear hV
      go_cut [117] from 105 to 116 (fun v117 wc => v117 = .bool (!V) ∧ Below w4.heap.size w4 wc)
      case first =>
        have HMK := Lib.hid (fun w' (hw : Below w4.heap.size w4 w') => (⟨cells_keepL hw (Nat.le_refl _) _ _ hy0, cells_keepL hw (Nat.le_refl _) _ _ p0, cells_keepL hw (Nat.le_refl _) _ _ p1, cells_keepL hw (Nat.le_refl _) _ _ e2, hw⟩ : w'.cell? ⟨q, 0, none⟩ = some (.string b) ∧ w'.cell? ⟨p', 0, none⟩ = some (.bool (zb y)) ∧ w'.cell? ⟨p', 1, none⟩ = some (.string (zs y)) ∧ w'.cell? ⟨lb, lof + 1, none⟩ = some (.string (enc t)) ∧ Below w4.heap.size w4 w'))
        clear HV
        go_region_held3 (fun w' => w'.cell? ⟨q, 0, none⟩ = some (.string b) ∧ w'.cell? ⟨p', 0, none⟩ = some (.bool (zb y)) ∧ w'.cell? ⟨p', 1, none⟩ = some (.string (zs y)) ∧ w'.cell? ⟨lb, lof + 1, none⟩ = some (.string (enc t)) ∧ Below w4.heap.size w4 w')
          (first | assumption | (refine HMK.out _ ?_; first | assumption | with_reducible exact (Below.refl _ _).drew | with_reducible exact hbn))
          ((go_at_call 37; (with_reducible refine (HB.out _).mono ?_); rintro e wn ⟨rfl, bn⟩; have hbn : Below w4.heap.size w4 wn := (Below.refl _ w4).drew.trans (bn.mono (Nat.le_refl _))))
        go_wp2_with fail
        go_meet
        exact ⟨rfl, hbn⟩
      case rest =>
        obtain ⟨rfl, hBc⟩ := hcut
        rename World => w5
        have hY5 := hY'.below hBc hY'.lt
        replace hb := hb.trans (hBc.mono hb.size)
        clear e1 e2 hy0 HB hBc p0 p1 hY'
        cases V
        · have hnl : ¬ y.natAbs < t := of_decide_eq_false HV.out
          go_wp2_with fail
          go_ret2
          exact RSP.no hnl rfl hb
        · have hlt : y.natAbs < t := of_decide_eq_true HV.out
          obtain ⟨i1, hy, hyy0, hyy1, hyy2⟩ := info_intL
          have p0 := hY5.c0
          have p1 := hY5.c1
          have hNI := IBL.new w5 (zb y) (zs y)
          have bN := (Below.refl _ w5).alloc (Nat.le_refl _) (.cells #[.bool (zb y), .string (zs y)] 36)
          have hb7 := hb.trans (bN.mono hb.size)
          have hO : (w5.alloc (.cells #[.bool (zb y), .string (zs y)] 36)).ownsRow (w5.heap.size + 1) 36 2 (.slice none 0 0) 0 (icl []) := ⟨rfl, .inl ⟨rfl, rfl⟩⟩
          have hK : w5.heap.size + 1 ≤ (w5.alloc (.cells #[.bool (zb y), .string (zs y)] 36)).heap.size := by simp
          clear HV hY5
          go_wp2_with (at_builtin; refine wpList_append_own _ rfl (.tmp 118) (.tmp 120) 59 rfl (w5.heap.size + 1) 36 i1 (.agg #[.bool false, .string ⟨#[]⟩]) 2 24 Tryz.underlying59 hy hyy0 hyy1 hyy2 rfl (by decide) (.slice none 0 0) 0 (icl []) rfl hO ⟨w5.heap.size, 0, none⟩ 1 1 [.bool (zb y), .string (zs y)] rfl rfl (two_cellV hNI.c0 hNI.c1) (by simp [Value.oneCell']) (by unfold maxLen; omega) (by omega) hK ?_; intro v1 w9 hown hgrow _)
          have hb9 : Below (w5.heap.size + 1) (w5.alloc (.cells #[.bool (zb y), .string (zs y)] 36)) w9 := (Below.refl _ _).grown hgrow (by simp) (fun k e => by simp [Value.ownBlock] at e)
          have hbt := hb7.trans (hb9.mono (Nat.le_trans hb.size (Nat.le_succ _)))
          obtain ⟨ao, ac, rfl, hIS⟩ := own_IS (L := [(zb y, zs y)]) hown
          clear hown hgrow hb9 hO bN hb7
          rw [rounds_succ]
          go_wp2_with fail
          go_ret2
          exact RSP.yes hlt rfl hIS hbt
end Go.Proofs.YtapmeiaonnnmdaaGreatDoor

/- sigma.inRange, sigma.Respond at the statement of the squares modulo 77. -/
namespace Go.Proofs.YtapmeiaonnnmdaaGreatDoor
open Go.RowKit Num
set_option maxRecDepth 20000
set_option linter.unusedVariables false
set_option maxHeartbeats 4000000 in
theorem sinRange_one (a : StA) (S : StM) (b : ByteArray) (bn : Nat) (wo : Option Addr) (wc0 : Nat) (v : Int) (w : World) (hS : SS w a S) (hok : S.ok) (hV : S.V = [b]) (he : emB b = false) (hbn : IsN b bn) (hwi : IS w wo [(zb v, zs v)]) (hv : v.natAbs < 65536) (hr : v.natAbs < bn) :
    Calls Tryz.prog 36 #[.agg #[.slice a.ga S.G.length a.gc, .slice a.va S.V.length a.vc, .slice a.qa S.Q.length a.qc], .slice wo 1 wc0] w fun e w' => e = .returned (.bool true) ∧ Below w.heap.size w w' := by
  have HK := Lib.hid (fun w' => skind_any b w')
  unfold kdI at HK
  rw [if_neg (by rw [he]; decide)] at HK
  have HB := Lib.hid (fun w' => sbelow_any b (zb v) (zs v) b v.natAbs bn w' (sZ hv).isN hbn)
  have hbl : blB b (zb v) v.natAbs bn = true := by unfold blB; rw [he]; simpa using hr
  rw [hbl] at HB
  have hb := (Below.refl _ w).alloc (Nat.le_refl _) (.cells #[.slice a.ga S.G.length a.gc, .slice a.va S.V.length a.vc, .slice a.qa S.Q.length a.qc] 49)
  have hX := SXB.new w a S
  have HO := Lib.hid (sorder_any a S _ (hS.below hb (Nat.le_refl _)) hok)
  have hVS := hS.v.keepL (cells_keepL hb (Nat.le_refl _))
  have hws := hwi.keepL (cells_keepL hb (Nat.le_refl _))
  have hn : S.V.length = 1 := by rw [hV]; rfl
  rw [hV] at hVS
  have hX0 := hX.c0
  have hX1 := hX.c1
  have hX2 := hX.c2
  simp only [hn] at hb hVS hws hX0 hX1 hX2 HO ⊢
  obtain ⟨wb, wof, rfl, f1, f2⟩ := hws 0 (by simp)
  simp only [Nat.zero_mul, Nat.add_zero, List.getElem_cons_zero] at f1 f2
  clear hS hwi hbl hws hX hbn hr hv hok
  obtain ⟨ga, gc, va, vc, qa, qc⟩ := a
  simp only at hb hVS f1 f2 hX0 hX1 hX2 HO ⊢
  obtain ⟨vb, vof, rfl, e0⟩ := hVS 0 (by simp)
  simp only [Nat.add_zero, List.getElem_cons_zero] at e0
  obtain ⟨ng, hng⟩ : ∃ n, S.G.length = n := ⟨_, rfl⟩
  obtain ⟨nqq, hnq⟩ : ∃ n, S.Q.length = n := ⟨_, rfl⟩
  obtain ⟨od, hod⟩ : ∃ n, ordL S.G = n := ⟨_, rfl⟩
  simp only [hng, hnq, hod] at hb e0 f1 f2 hX0 hX1 hX2 HO ⊢
  clear hng hnq hVS hV hn hod
  go_enter Tryz.func36, Tryz.ntmps36
  go_wp2_with fail
  generalize hW : World.alloc w _ = W at hb e0 f1 f2 hX0 hX1 hX2 HO ⊢
  clear hW
  refine HO.out.mono ?_; rintro e W2 ⟨rfl, b2⟩
  replace hb := hb.trans (b2.mono hb.size)
  replace e0 := cells_keepL b2 (Nat.le_refl _) _ _ e0
  replace f1 := cells_keepL b2 (Nat.le_refl _) _ _ f1
  replace f2 := cells_keepL b2 (Nat.le_refl _) _ _ f2
  replace hX1 := cells_keepL b2 (Nat.le_refl _) _ _ hX1
  clear b2 HO hX0 hX2
  have bV := (Below.refl _ W2).alloc (Nat.le_refl _) (.cells #[.string b] 40)
  have hY := VrB.new W2 b
  have hy0 := hY.c0
  go_wp2_with fail
  refine wp_loop_rounds 2 ?_
  rw [rounds_succ]
  go_wp2_with fail
  replace hb := hb.trans (bV.mono hb.size)
  replace f1 := cells_keepL bV (Nat.le_refl _) _ _ f1
  replace f2 := cells_keepL bV (Nat.le_refl _) _ _ f2
  clear e0 hX1 bV hY
  generalize W2.heap.size = q at hy0 ⊢
  generalize World.alloc W2 _ = W3 at hb f1 f2 hy0 ⊢
  refine (HK.out _).mono ?_; rintro e w4 ⟨rfl, b4⟩
  replace hb := hb.trans (b4.mono hb.size)
  replace f1 := cells_keepL b4 (Nat.le_refl _) _ _ f1
  replace f2 := cells_keepL b4 (Nat.le_refl _) _ _ f2
  replace hy0 := cells_keepL b4 (Nat.le_refl _) _ _ hy0
  clear b4 HK
  go_wp2_with fail
  go_cut [32] from 25 to 31 (fun v32 wc => v32 = .bool false ∧ Below w4.heap.size w4 wc)
  case first =>
    have HMK := Lib.hid (fun w' (hw : Below w4.heap.size w4 w') => (⟨cells_keepL hw (Nat.le_refl _) _ _ hy0, cells_keepL hw (Nat.le_refl _) _ _ f1, cells_keepL hw (Nat.le_refl _) _ _ f2, hw⟩ : w'.cell? ⟨q, 0, none⟩ = some (.string b) ∧ w'.cell? ⟨wb, wof, none⟩ = some (.bool (zb v)) ∧ w'.cell? ⟨wb, wof + 1, none⟩ = some (.string (zs v)) ∧ Below w4.heap.size w4 w'))
    go_region_held3 (fun w' => w'.cell? ⟨q, 0, none⟩ = some (.string b) ∧ w'.cell? ⟨wb, wof, none⟩ = some (.bool (zb v)) ∧ w'.cell? ⟨wb, wof + 1, none⟩ = some (.string (zs v)) ∧ Below w4.heap.size w4 w')
      (first | assumption | (refine HMK.out _ ?_; first | assumption | with_reducible exact (Below.refl _ _).drew | with_reducible exact hbn))
      ((go_at_call 37; (with_reducible refine (HB.out _).mono ?_); rintro e wn ⟨rfl, bn⟩; have hbn : Below w4.heap.size w4 wn := (Below.refl _ w4).drew.trans (bn.mono (Nat.le_refl _))))
    go_wp2_with fail
    go_meet
    exact ⟨rfl, hbn⟩
  case rest =>
    obtain ⟨rfl, hBc⟩ := hcut
    rename World => w5
    replace hb := hb.trans (hBc.mono hb.size)
    clear f1 f2 hy0 HB hBc
    go_wp2_with fail
    rw [rounds_succ]
    go_wp2_with fail
    go_ret
    exact ⟨rfl, hb⟩
/-- the world behind a boxed rule and statement -/
theorem box_rs (w : World) (C L : ByteArray) (a : StA) (S : StM) : ∃ W, (w.alloc (.cells #[.string C, .string L] 31)).alloc (.cells #[.slice a.ga S.G.length a.gc, .slice a.va S.V.length a.vc, .slice a.qa S.Q.length a.qc] 49) = W ∧
    RUB W w.heap.size C L ∧ SXB W (w.heap.size + 1) a S ∧ Below w.heap.size w W := by
  have b0 := (Below.refl _ w).alloc (Nat.le_refl _) (.cells #[.string C, .string L] 31)
  have b1 := b0.alloc b0.size (.cells #[.slice a.ga S.G.length a.gc, .slice a.va S.V.length a.vc, .slice a.qa S.Q.length a.qc] 49)
  have h0 := (RUB.new w C L).below ((Below.refl _ (w.alloc (.cells #[.string C, .string L] 31))).alloc (Nat.le_refl _) (.cells #[.slice a.ga S.G.length a.gc, .slice a.va S.V.length a.vc, .slice a.qa S.Q.length a.qc] 49)) (RUB.new w C L).lt
  have h1 := SXB.new (w.alloc (.cells #[.string C, .string L] 31)) a S
  rw [World.size_alloc] at h1
  exact ⟨_, rfl, h0, h1, b1⟩
set_option maxHeartbeats 8000000 in
theorem sRespond_tt (K L c : Nat) (h1 : 2 ≤ K) (h2 : K < 4) (h3 : 2 ≤ L) (h4 : L < 4) (hcK : c < K) (g v z : Int) (a : StA) (ta : Option Addr) (tc : Nat) (S : StM) (hSe : ttS (enc (pw g)) ta tc = S) (wo mo : Option Addr) (wc0 mc : Nat) (w : World) (hS : SS w a S) (hwi : IS w wo [(zb v, zs v)]) (hmi : IS w mo [(zb z, zs z)]) (hv : v.natAbs < 20) (hz : z.natAbs < L * K * 20) :
    Calls Tryz.prog 16 #[.agg #[.string (enc K), .string (enc L)], .agg #[.slice a.ga S.G.length a.gc, .slice a.va S.V.length a.vc, .slice a.qa S.Q.length a.qc], .slice wo 1 wc0, .slice mo 1 mc, .string (enc c)] w (RSP (z + c * v) (L * K * 20 - (K - 1) * 19) w) := by
  obtain ⟨W, hW, hU, hX, hb⟩ := box_rs w (enc K) (enc L) a S
  have hS0 := hS.below hb (Nat.le_refl _)
  have hwi0 := hwi.keepL (cells_keepL hb (Nat.le_refl _))
  have hmi0 := hmi.keepL (cells_keepL hb (Nat.le_refl _))
  have hok : S.ok := by rw [← hSe]; exact tt_ok g ta tc
  have hV : S.V = [⟨#[20]⟩] := by rw [← hSe]; rfl
  have hn : S.V.length = 1 := by rw [hV]; rfl
  have hbd : bdE (enc K) (enc L) S.pl = 0 := by rw [← hSe]; exact tt_bd g K L h1 h2 h3 h4 ta tc
  have hKL : L * K * 20 ≤ 180 := by
    have : L * K ≤ 3 * 3 := Nat.mul_le_mul (by omega) (by omega)
    omega
  have sz : ∀ k, k < 4 → (enc k).size ≤ 8 := fun k hk => by rw [size_enc]; exact Nat.le_trans ((blen_le_iff k 1).2 (by omega)) (by omega)
  have hcv : ((c : Int) * v).natAbs ≤ 2 * 19 := by rw [Int.natAbs_mul]; exact Nat.mul_le_mul (by simp; omega) (by omega)
  have HB := Lib.hid (sbounds_any (enc K) (enc L) a S W hS0 hok (sz K h2) (sz L h4) (by rw [hV]; simp; decide))
  rw [hbd, show S.V.map (limP (enc K) (enc L) (ordL S.G)) = [(enc (L * K * 20), enc (L * K * 20 - (K - 1) * 19))] by rw [hV]; simp [tt_lim]] at HB
  generalize hm : L * K * 20 = m at hz hKL HB ⊢
  obtain ⟨t, ht⟩ : ∃ t, m - (K - 1) * 19 = t := ⟨_, rfl⟩
  have ht1 : t ≤ 180 := by omega
  rw [ht] at HB ⊢
  have hiv : [(zb v, zs v)].all ivB = true := by rw [List.all_cons, iv_s (by omega)]; rfl
  have him : [(zb z, zs z)].all ivB = true := by rw [List.all_cons, iv_s (by omega)]; rfl
  have HV1 := Lib.hid (fun w' (hb' : Below W.heap.size W w') => svalid_any wo wc0 1 _ w' (hwi0.keepL (cells_keepL hb' (Nat.le_refl _))) rfl (by decide))
  have HV2 := Lib.hid (fun w' (hb' : Below W.heap.size W w') => svalid_any mo mc 1 _ w' (hmi0.keepL (cells_keepL hb' (Nat.le_refl _))) rfl (by decide))
  rw [hiv] at HV1
  rw [him] at HV2
  have HVc := Lib.hid (nvalidQ (sN (n := c) (by omega)).valid)
  have hz1 : decide (ncmp c K ≥ 0) = false := by
    rcases ncmpLt c K with ⟨_, h⟩ | ⟨h, _⟩
    · rw [h]; decide
    · exact absurd hcK h
  have HC := Lib.hid (fun w' => Cmp_any (enc c) (enc K) c K w' (sN (by omega)) (sN (by omega)))
  generalize ncmp c K = zc at HC hz1
  have HIR := Lib.hid (fun w' (hb' : Below W.heap.size W w') => sinRange_one a S ⟨#[20]⟩ 20 wo wc0 v w' (hS0.below hb' (Nat.le_refl _)) hok hV (by decide +kernel) ⟨by decide +kernel, by decide +kernel⟩ (hwi0.keepL (cells_keepL hb' (Nat.le_refl _))) (by omega) hv)
  have HBL := Lib.hid (fun w' => sbelow_any ⟨#[20]⟩ (zb z) (zs z) (enc m) z.natAbs m w' (sZ (by omega)).isN (sN (by omega)))
  rw [show blB ⟨#[20]⟩ (zb z) z.natAbs m = true by unfold blB; rw [show emB ⟨#[20]⟩ = false by decide +kernel]; simpa using hz] at HBL
  have HR := Lib.hid (fun w' (hb' : Below W.heap.size W w') lo lc (hl : GSl w' lo [(enc m, enc t)]) => srespond_one a S ⟨#[20]⟩ lo wo mo lc wc0 mc t c (enc m) v z w' (hS0.below hb' (Nat.le_refl _)) hV (by decide +kernel) hl (hwi0.keepL (cells_keepL hb' (Nat.le_refl _))) (hmi0.keepL (cells_keepL hb' (Nat.le_refl _))) (by omega) (by omega) (by omega) (by omega) (by omega) (by omega))
  have hVS := hS0.v
  rw [hV] at hVS
  have x0 := hX.c0
  have x1 := hX.c1
  have x2 := hX.c2
  have u0 := hU.c0
  have u1 := hU.c1
  simp only [hn] at hW HB HIR HR x1 ⊢
  obtain ⟨mb, mof, rfl, g1, g2⟩ := hmi0 0 (by simp)
  simp only [Nat.zero_mul, Nat.add_zero, List.getElem_cons_zero] at g1 g2
  clear hS hwi hmi hS0 hwi0 hmi0 hok hV hbd hm hz hKL hcv hiv him sz hU hn
  obtain ⟨ga, gc, va, vc, qa, qc⟩ := a
  simp only at hW HB HIR HR x0 x1 x2 hVS hX ⊢
  obtain ⟨vb, vof, rfl, e0⟩ := hVS 0 (by simp)
  simp only [Nat.add_zero, List.getElem_cons_zero] at e0
  obtain ⟨ng, hng⟩ : ∃ n, S.G.length = n := ⟨_, rfl⟩
  obtain ⟨nqq, hnq⟩ : ∃ n, S.Q.length = n := ⟨_, rfl⟩
  simp only [hng, hnq] at hW HB HIR HR x0 x1 x2 ⊢
  clear hng hnq hVS hX
  generalize enc c = cs at HVc HC HR ⊢
  generalize enc t = ts at HB HR
  go_enter Tryz.func16, Tryz.ntmps16
  go_wp2_with fail
  clear hW
  refine HB.out.mono ?_; rintro e w1 (⟨h, _⟩ | ⟨_, lo, lc, rfl, hG, b1⟩)
  · exact absurd rfl h
  replace x0 := cells_keepL b1 (Nat.le_refl _) _ _ x0
  replace x1 := cells_keepL b1 (Nat.le_refl _) _ _ x1
  replace x2 := cells_keepL b1 (Nat.le_refl _) _ _ x2
  replace u0 := cells_keepL b1 (Nat.le_refl _) _ _ u0
  go_wp2_with fail
  refine (HV1.out _ b1).mono ?_; rintro e w2 ⟨rfl, b2⟩
  replace hG := hG.keep (cells_keepL b2 (Nat.le_refl _))
  replace b1 := b1.trans (b2.mono b1.size)
  replace x0 := cells_keepL b2 (Nat.le_refl _) _ _ x0
  replace x1 := cells_keepL b2 (Nat.le_refl _) _ _ x1
  replace x2 := cells_keepL b2 (Nat.le_refl _) _ _ x2
  replace u0 := cells_keepL b2 (Nat.le_refl _) _ _ u0
  go_wp2_with fail
  refine (HV2.out _ b1).mono ?_; rintro e w3 ⟨rfl, b3⟩
  replace hG := hG.keep (cells_keepL b3 (Nat.le_refl _))
  replace b1 := b1.trans (b3.mono b1.size)
  replace x0 := cells_keepL b3 (Nat.le_refl _) _ _ x0
  replace x1 := cells_keepL b3 (Nat.le_refl _) _ _ x1
  replace x2 := cells_keepL b3 (Nat.le_refl _) _ _ x2
  replace u0 := cells_keepL b3 (Nat.le_refl _) _ _ u0
  go_wp2_with fail
  refine (HVc.out _).mono ?_; rintro e w4 ⟨rfl, rfl⟩
  go_wp2_with fail
  refine (HC.out _).mono ?_; rintro e w4 ⟨rfl, rfl⟩
  go_wp2_with fail
  refine (HIR.out _ b1).mono ?_; rintro e w5 ⟨rfl, b5⟩
  replace hG := hG.keep (cells_keepL b5 (Nat.le_refl _))
  replace b1 := b1.trans (b5.mono b1.size)
  replace x0 := cells_keepL b5 (Nat.le_refl _) _ _ x0
  replace x1 := cells_keepL b5 (Nat.le_refl _) _ _ x1
  replace x2 := cells_keepL b5 (Nat.le_refl _) _ _ x2
  clear HB HV1 HV2 HVc HC HIR b2 b3 b5 u0 u1
  replace e0 := cells_keepL b1 (Nat.le_refl _) _ _ e0
  replace g1 := cells_keepL b1 (Nat.le_refl _) _ _ g1
  replace g2 := cells_keepL b1 (Nat.le_refl _) _ _ g2
  have bV := (Below.refl _ w5).alloc (Nat.le_refl _) (.cells #[.string ⟨#[20]⟩] 40)
  have hy0 := (VrB.new w5 ⟨#[20]⟩).c0
  go_wp2_with fail
  refine wp_loop_rounds 2 ?_
  rw [rounds_succ]
  go_wp2_with fail
  replace b1 := b1.trans (bV.mono b1.size)
  replace hG := hG.keep (cells_keepL bV (Nat.le_refl _))
  replace x0 := cells_keepL bV (Nat.le_refl _) _ _ x0
  replace x1 := cells_keepL bV (Nat.le_refl _) _ _ x1
  replace x2 := cells_keepL bV (Nat.le_refl _) _ _ x2
  replace g1 := cells_keepL bV (Nat.le_refl _) _ _ g1
  replace g2 := cells_keepL bV (Nat.le_refl _) _ _ g2
  clear e0 bV
  generalize w5.heap.size = q at hy0 ⊢
  generalize World.alloc w5 _ = w6 at b1 hG x0 x1 x2 g1 g2 hy0 ⊢
  have hG' := hG
  obtain ⟨lb, lof, rfl, l1, _⟩ := hG' 0 (by simp)
  simp only [Nat.zero_mul, Nat.add_zero, List.getElem_cons_zero] at l1
  go_cut [86] from 75 to 85 (fun v86 wc => v86 = .bool false ∧ Below w6.heap.size w6 wc)
  case first =>
    have HMK := Lib.hid (fun w' (hw : Below w6.heap.size w6 w') => (⟨cells_keepL hw (Nat.le_refl _) _ _ hy0, cells_keepL hw (Nat.le_refl _) _ _ g1, cells_keepL hw (Nat.le_refl _) _ _ g2, cells_keepL hw (Nat.le_refl _) _ _ l1, hw⟩ : w'.cell? ⟨q, 0, none⟩ = some (.string ⟨#[20]⟩) ∧ w'.cell? ⟨mb, mof, none⟩ = some (.bool (zb z)) ∧ w'.cell? ⟨mb, mof + 1, none⟩ = some (.string (zs z)) ∧ w'.cell? ⟨lb, lof, none⟩ = some (.string (enc m)) ∧ Below w6.heap.size w6 w'))
    clear HR hG
    go_region_held3 (fun w' => w'.cell? ⟨q, 0, none⟩ = some (.string ⟨#[20]⟩) ∧ w'.cell? ⟨mb, mof, none⟩ = some (.bool (zb z)) ∧ w'.cell? ⟨mb, mof + 1, none⟩ = some (.string (zs z)) ∧ w'.cell? ⟨lb, lof, none⟩ = some (.string (enc m)) ∧ Below w6.heap.size w6 w')
      (first | assumption | (refine HMK.out _ ?_; first | assumption | with_reducible exact (Below.refl _ _).drew | with_reducible exact hbn))
      ((go_at_call 37; (with_reducible refine (HBL.out _).mono ?_); rintro e wn ⟨rfl, bn⟩; have hbn : Below w6.heap.size w6 wn := (Below.refl _ w6).drew.trans (bn.mono (Nat.le_refl _))))
    go_wp2_with fail
    go_meet
    exact ⟨rfl, hbn⟩
  case rest =>
    obtain ⟨rfl, hBc⟩ := hcut
    rename World => w7
    replace b1 := b1.trans (hBc.mono b1.size)
    replace hG := hG.keep (cells_keepL hBc (Nat.le_refl _))
    replace x0 := cells_keepL hBc (Nat.le_refl _) _ _ x0
    replace x1 := cells_keepL hBc (Nat.le_refl _) _ _ x1
    replace x2 := cells_keepL hBc (Nat.le_refl _) _ _ x2
    have HRR := Lib.hid (HR.out w7 b1 _ lc hG)
    have hbt := hb.trans (b1.mono hb.size)
    clear g1 g2 hy0 l1 HBL hBc HR hG hb
    go_wp2_with fail
    rw [rounds_succ]
    go_wp2_with fail
    refine HRR.out.mono ?_; rintro e w8 (⟨hlt, ao, ac, rfl, hI, b8⟩ | ⟨hlt, rfl, b8⟩)
    · have hb8 := hbt.trans (b8.mono hbt.size)
      clear HRR x0 x1 x2 b8
      go_wp2_with fail
      go_ret2
      exact RSP.yes hlt rfl hI hb8
    · have hb8 := hbt.trans (b8.mono hbt.size)
      clear HRR x0 x1 x2 b8
      go_wp2_with fail
      go_ret2
      exact RSP.no hlt rfl hb8
end Go.Proofs.YtapmeiaonnnmdaaGreatDoor
