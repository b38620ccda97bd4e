import Derived.Test.YtapmeiaonnnmdaaGreatDoorTtC
import Derived.Test.YtapmeiaonnnmdaaGreatDoorSgB
import Derived.Test.YtapmeiaonnnmdaaGreatDoorTtP
/- sigma: Bounds, draw, Commit at a statement with one variable. -/
namespace Go.Proofs.YtapmeiaonnnmdaaGreatDoor
open Go.RowKit Num
set_option maxRecDepth 20000
set_option linter.unusedVariables false
/-- the world behind a boxed statement and two tapes -/
theorem box_st2 (w : World) (a : StA) (S : StM) (v0 v1 v2 : Value) : ∃ W, ((w.alloc (.cells #[.slice a.ga S.G.length a.gc, .slice a.va S.V.length a.vc, .slice a.qa S.Q.length a.qc] 49)).alloc (.cells #[v0, v1, v2] 63)).alloc (.cells #[.slice none 0 0, .string ⟨#[]⟩, .int .i64 0] 63) = W ∧
    SXB W w.heap.size a S ∧ TPB W (w.heap.size + 1) v0 v1 v2 ∧ TPB W (w.heap.size + 1 + 1) (.slice none 0 0) (.string ⟨#[]⟩) (.int .i64 0) ∧ Below w.heap.size w W := by
  have b1 := (Below.refl _ w).alloc (Nat.le_refl _) (.cells #[.slice a.ga S.G.length a.gc, .slice a.va S.V.length a.vc, .slice a.qa S.Q.length a.qc] 49)
  have b2 := b1.alloc b1.size (.cells #[v0, v1, v2] 63)
  have b3 := b2.alloc b2.size (.cells #[.slice none 0 0, .string ⟨#[]⟩, .int .i64 0] 63)
  have h1 := SXB.new w a S
  have h2 := TPB.new (w.alloc (.cells #[.slice a.ga S.G.length a.gc, .slice a.va S.V.length a.vc, .slice a.qa S.Q.length a.qc] 49)) v0 v1 v2
  have h3 := TPB.new ((w.alloc (.cells #[.slice a.ga S.G.length a.gc, .slice a.va S.V.length a.vc, .slice a.qa S.Q.length a.qc] 49)).alloc (.cells #[v0, v1, v2] 63)) (.slice none 0 0) (.string ⟨#[]⟩) (.int .i64 0)
  have k1 := (Below.refl _ (w.alloc (.cells #[.slice a.ga S.G.length a.gc, .slice a.va S.V.length a.vc, .slice a.qa S.Q.length a.qc] 49))).alloc (Nat.le_refl _) (.cells #[v0, v1, v2] 63)
  have k2 := (Below.refl _ ((w.alloc (.cells #[.slice a.ga S.G.length a.gc, .slice a.va S.V.length a.vc, .slice a.qa S.Q.length a.qc] 49)).alloc (.cells #[v0, v1, v2] 63))).alloc (Nat.le_refl _) (.cells #[.slice none 0 0, .string ⟨#[]⟩, .int .i64 0] 63)
  have g1 := (h1.below k1 h1.lt).below k2 (h1.below k1 h1.lt).lt
  have g2 := h2.below k2 h2.lt
  simp only [World.size_alloc] at g1 g2 h3
  exact ⟨_, rfl, g1, g2, h3, b3⟩
theorem IS.heap {w w' : World} {ao : Option Addr} {l : List (Bool × ByteArray)} (h : IS w ao l) (hh : ∀ b off, ao = some ⟨b, off, none⟩ → w'.heap[b]? = w.heap[b]?) : IS w' ao l := fun k hk => by
  obtain ⟨b, off, e, c0, c1⟩ := h k hk
  exact ⟨b, off, e, (cell_same (hh b off e) _).trans c0, (cell_same (hh b off e) _).trans c1⟩
theorem info_intL : ∃ i, Tryz.prog.info? 36 = some i ∧ i.zero = some (.agg #[.bool false, .string ⟨#[]⟩]) ∧ i.size = 2 ∧ i.bytes = 24 := by
  obtain ⟨i1, hy, hy0, hy1, hy2⟩ := info_parts info_int2
  exact ⟨i1, hy, hy0, hy1, hy2⟩
set_option maxHeartbeats 4000000 in
theorem sdraw_one (a : StA) (S : StM) (b : ByteArray) (lo : Option Addr) (lc m : Nat) (T : ByteArray) (vo : Option Addr) (c x : Nat) (w : World) (hS : SS w a S) (hV : S.V = [b]) (he : emB b = false) (hl : GSl w lo [(enc m, T)]) (hN : NS w vo [enc x]) (hm : 1 ≤ m) (hm1 : m ≤ 10000) (hlt : x < 2 * m - 1) :
    Calls Tryz.prog 33 #[.agg #[.slice a.ga S.G.length a.gc, .slice a.va S.V.length a.vc, .slice a.qa S.Q.length a.qc], .slice lo 1 lc, .agg #[.slice vo 1 c, .string ⟨#[]⟩, .int .i64 0]] w fun e w' => ∃ ao ac no nc, e = .returned (.tuple #[.slice ao 1 ac, .agg #[.slice no 1 nc, .string ⟨#[]⟩, .int .i64 1], .int .i64 0]) ∧ IS w' ao [(zb ((x : Int) - ((m : Int) - 1)), zs ((x : Int) - ((m : Int) - 1)))] ∧ Below w.heap.size w w' := by
  have HSG := Lib.hid (fun w' (hb : Below w.heap.size w w') => signed_any vo c x m w' (hN.keepL (cells_keepL hb (Nat.le_refl _))) hm hm1 hlt)
  generalize zb ((x : Int) - ((m : Int) - 1)) = zg at HSG ⊢
  generalize zs ((x : Int) - ((m : Int) - 1)) = ze at HSG ⊢
  have HK := Lib.hid (fun w' => skind_any b w')
  unfold kdI at HK
  rw [if_neg (by rw [he]; decide)] at HK
  generalize enc m = M at HSG hl
  obtain ⟨W, hW, hX, hP, hR, hb⟩ := box_st2 w a S (.slice vo 1 c) (.string ⟨#[]⟩) (.int .i64 0)
  have hVS := hS.v.keepL (cells_keepL hb (Nat.le_refl _))
  have hls := hl.keep (cells_keepL hb (Nat.le_refl _))
  rw [hV] at hVS
  have hX1 := hX.c1
  rw [hV] at hX1
  clear hS hl hN hm hm1 hlt
  obtain ⟨ga, gc, va, vc, qa, qc⟩ := a
  obtain ⟨G, V, Q⟩ := S
  simp only at hV
  subst hV
  simp only at hW hX hVS hX1 ⊢
  obtain ⟨vb, vof, rfl, e0⟩ := hVS 0 (by simp)
  obtain ⟨lb, lof, rfl, e1, e2⟩ := hls 0 (by simp)
  simp only [Nat.zero_mul, Nat.add_zero, List.getElem_cons_zero] at e0 e1 e2
  obtain ⟨ng, hng⟩ : ∃ n, G.length = n := ⟨_, rfl⟩
  obtain ⟨nqq, hnq⟩ : ∃ n, Q.length = n := ⟨_, rfl⟩
  simp only [hng, hnq, List.length_singleton] at hW hX1 ⊢
  clear hng hnq hVS hls
  go_enter Tryz.func33, Tryz.ntmps33
  go_wp2_with fail
  clear hW
  have bV := (Below.refl _ W).alloc (Nat.le_refl _) (.cells #[.string b] 40)
  have bW := bV.alloc bV.size (.cells #[.bool false, .string ⟨#[]⟩] 36)
  have hY := (VrB.new W b).below ((Below.refl _ (W.alloc (.cells #[.string b] 40))).alloc (Nat.le_refl _) (.cells #[.bool false, .string ⟨#[]⟩] 36)) (VrB.new W b).lt
  have hI := RBox.new (W.alloc (.cells #[.string b] 40))
  rw [World.size_alloc] at hI
  have hP1 := hP.below bW hP.lt
  have hR1 := hR.below bW hR.lt
  have l1 := cells_keepL bW (Nat.le_refl _) _ _ e1
  have hb1 := hb.trans (bW.mono hb.size)
  have x1 := cells_keepL bW (Nat.le_refl _) _ _ hX1
  have hlW : w.heap.size + 1 + 1 < W.heap.size := hR.lt
  have hy0 := hY.c0
  have k1 : (1 : Int) == 1 := by decide
  refine wp_loop_rounds 2 ?_
  rw [rounds_succ]
  go_wp2_with fail
  clear e0
  generalize hWs : W.heap.size = q at hY hI hlW hy0 ⊢
  generalize hW1 : World.alloc (World.alloc W _) _ = W1 at hY hI hP1 hR1 l1 hb1 x1 hy0 ⊢
  clear hW1 bV bW
  refine (HK.out _).mono ?_; rintro e w2 ⟨rfl, b2⟩
  have hI2 := hI.below b2 hI.lt
  have hP2 := hP1.below b2 hP1.lt
  have hR2 := hR1.below b2 hR1.lt
  have l2 := cells_keepL b2 (Nat.le_refl _) _ _ l1
  have hb2 := hb1.trans (b2.mono hb1.size)
  have x2 := cells_keepL b2 (Nat.le_refl _) _ _ x1
  clear hI hP1 hR1 l1 hb1 x1 b2 hy0 HK
  have p0 := hP2.c0
  have p1 := hP2.c1
  have p2 := hP2.c2
  have hb2d := hb2.drew
  go_wp2_with fail
  clear hP hR hX hX1 e1 e2
  go_cut [13] from 25 to 35 (fun v13 wc => ∃ no nc, v13 = .int .i64 0 ∧ IBL wc (q + 1) zg ze ∧ TPB wc (w.heap.size + 1) (.slice no 1 nc) (.string ⟨#[]⟩) (.int .i64 1) ∧ TPB wc (w.heap.size + 1 + 1) (.slice none 0 0) (.string ⟨#[]⟩) (.int .i64 0) ∧ Below w.heap.size w wc)
  case first =>
    have n1 : q + 1 ≠ w.heap.size + 1 := by omega
    have n2 : q + 1 ≠ w.heap.size + 1 + 1 := by omega
    go_region_with ((go_at_call 23; (with_reducible refine (HSG.out _ hb2d).mono ?_); rintro e w3 ⟨no, nc, rfl, b3⟩; have hI3 := hI2.drew.below b3 hI2.lt; have hP3 := TPB.below (w := w2.drew) hP2 b3 hP2.lt; have hR3 := TPB.below (w := w2.drew) hR2 b3 hR2.lt; have hb3 := hb2d.trans (b3.mono hb2d.size); have z0 := hI3.c0; have z1 := hI3.c1; have z2 := hI3.f0; have z3 := hI3.f1; have y0 := hP3.c0; have y1 := hP3.c1; have y2 := hP3.c2; have y3 := hP3.f 0; have y4 := hP3.f 1; have y5 := hP3.f 2))
    all_goals
      have hI4 : IBL ((w3.setCell ⟨q + 1, 0, none⟩ (.bool zg)).setCell ⟨q + 1, 1, none⟩ (.string ze)) (q + 1) zg ze := put2 hI3
      have hP4 : TPB ((w3.setCell ⟨q + 1, 0, none⟩ (.bool zg)).setCell ⟨q + 1, 1, none⟩ (.string ze)) (w.heap.size + 1) _ _ _ := (put2_other w3 (q + 1) _ _ (w.heap.size + 1) n1.symm).trans hP3
      have hR4 : TPB ((w3.setCell ⟨q + 1, 0, none⟩ (.bool zg)).setCell ⟨q + 1, 1, none⟩ (.string ze)) (w.heap.size + 1 + 1) _ _ _ := (put2_other w3 (q + 1) _ _ (w.heap.size + 1 + 1) n2.symm).trans hR3
      have hb4 := (hb3.setCell (p := ⟨q + 1, 0, none⟩) (by simp; omega) (.bool zg)).setCell (p := ⟨q + 1, 1, none⟩) (by simp; omega) (.string ze)
      have hP5 := hP4.put (v0 := .slice no 1 nc) (v1 := .string ⟨#[]⟩) (v2 := .int .i64 1)
      have hI5 : IBL _ (q + 1) zg ze := (put3_other _ (w.heap.size + 1) (.slice no 1 nc) (.string ⟨#[]⟩) (.int .i64 1) (q + 1) n1).trans hI4
      have hR5 : TPB _ (w.heap.size + 1 + 1) _ _ _ := (put3_other _ (w.heap.size + 1) (.slice no 1 nc) (.string ⟨#[]⟩) (.int .i64 1) (w.heap.size + 1 + 1) (by omega)).trans hR4
      have hb5 := ((hb4.setCell (p := ⟨w.heap.size + 1, 0, none⟩) (by simp) (.slice no 1 nc)).setCell (p := ⟨w.heap.size + 1, 1, none⟩) (by simp) (.string ⟨#[]⟩)).setCell (p := ⟨w.heap.size + 1, 2, none⟩) (by simp) (.int .i64 1)
      go_wp2_with fail
      go_meet
      exact ⟨_, _, rfl, hI5, hP5, hR5, hb5⟩
  case rest =>
    obtain ⟨no, nc, rfl, hI6, hP6, hR6, hb6⟩ := hcut
    rename World => w6
    obtain ⟨i1, hy, hy0, hy1, hy2⟩ := info_intL
    have i0 := hI6.c0
    have i2 := hI6.c1
    have hNI := IBL.new w6 zg ze
    have bN := (Below.refl _ w6).alloc (Nat.le_refl _) (.cells #[.bool zg, .string ze] 36)
    have hP7 := hP6.below bN hP6.lt
    have hR7 := hR6.below bN hR6.lt
    have hb7 := hb6.trans (bN.mono hb6.size)
    have hO : (w6.alloc (.cells #[.bool zg, .string ze] 36)).ownsRow (w6.heap.size + 1) 36 2 (.slice none 0 0) 0 (icl []) := ⟨rfl, .inl ⟨rfl, rfl⟩⟩
    have hK : w6.heap.size + 1 ≤ (w6.alloc (.cells #[.bool zg, .string ze] 36)).heap.size := by simp
    have hRl := hR7.lt
    rw [World.size_alloc] at hRl
    clear hI6 hP6 hR6 hb6 bN HSG hP2 hR2 hI2 p0 p1 p2 hb2d hb2
    go_wp2_with (at_builtin; refine wpList_append_own _ rfl (.tmp 52) (.tmp 54) 59 rfl (w6.heap.size + 1) 36 i1 (.agg #[.bool false, .string ⟨#[]⟩]) 2 24 Tryz.underlying59 hy hy0 hy1 hy2 rfl (by decide) (.slice none 0 0) 0 (icl []) rfl hO ⟨w6.heap.size, 0, none⟩ 1 1 [.bool zg, .string ze] rfl rfl (two_cellV hNI.c0 hNI.c1) (by simp [Value.oneCell']) (by unfold maxLen; omega) (by omega) hK ?_; intro v1 w9 hown hgrow _)
    have hb9 : Below (w6.heap.size + 1) (w6.alloc (.cells #[.bool zg, .string ze] 36)) w9 := (Below.refl _ _).grown hgrow (by simp) (fun k e => by simp [Value.ownBlock] at e)
    have hP9 := hP7.below hb9 (by omega)
    have hR9 := hR7.below hb9 (by omega)
    have hbt := hb7.trans (hb9.mono (by omega))
    obtain ⟨ao, ac, rfl, hIS⟩ := own_IS (L := [(zg, ze)]) hown
    have hge : ∀ b off, ao = some ⟨b, off, none⟩ → w6.heap.size + 1 ≤ b := fun b off e => by
      subst e
      exact (own_ge hown b rfl).1
    clear hown hgrow hP7 hR7 hb7 hb9 hO
    have p0 := hP9.c0
    have p1 := hP9.c1
    have p2 := hP9.c2
    have r0 := hR9.c0
    have r1 := hR9.c1
    have r2 := hR9.c2
    have s0 := hR9.f 0
    have s1 := hR9.f 1
    have s2 := hR9.f 2
    rw [rounds_succ]
    go_wp2_with fail
    go_region
    go_wp2_with fail
    have hR10 := hR9.put (v0 := .slice no 1 nc) (v1 := .string ⟨#[]⟩) (v2 := .int .i64 1)
    have hI10 := hIS.heap (w' := ((w9.setCell ⟨w.heap.size + 1 + 1, 0, none⟩ (.slice no 1 nc)).setCell ⟨w.heap.size + 1 + 1, 1, none⟩ (.string ⟨#[]⟩)).setCell ⟨w.heap.size + 1 + 1, 2, none⟩ (.int .i64 1)) (fun b off e => put3_other w9 (w.heap.size + 1 + 1) _ _ _ b (by have := hge b off e; omega))
    have hb10 := ((hbt.setCell (p := ⟨w.heap.size + 1 + 1, 0, none⟩) (by simp; omega) (.slice no 1 nc)).setCell (p := ⟨w.heap.size + 1 + 1, 1, none⟩) (by simp; omega) (.string ⟨#[]⟩)).setCell (p := ⟨w.heap.size + 1 + 1, 2, none⟩) (by simp; omega) (.int .i64 1)
    clear hR9 hIS hbt hP9
    refine bodyPost_nt rfl rfl rfl rfl hR10 rfl ?_
    exact ⟨_, _, _, _, rfl, hI10, hb10.drew⟩
end Go.Proofs.YtapmeiaonnnmdaaGreatDoor

/- sigma.Bounds at a statement with one variable. -/
namespace Go.Proofs.YtapmeiaonnnmdaaGreatDoor
open Go.RowKit Num
set_option maxRecDepth 20000
set_option linter.unusedVariables false
set_option maxHeartbeats 8000000 in
theorem sBounds_one (C L : ByteArray) (a : StA) (S : StM) (b M T : ByteArray) (w : World) (hS : SS w a S) (hok : S.ok) (s1 : C.size ≤ 8) (s2 : L.size ≤ 8) (hV : S.V = [b]) (s3 : b.size ≤ 8) (hbd : bdE C L S.pl = 0) (hMT : limP C L (ordL S.G) b = (M, T)) :
    Calls Tryz.prog 9 #[.agg #[.string C, .string L], .agg #[.slice a.ga S.G.length a.gc, .slice a.va S.V.length a.vc, .slice a.qa S.Q.length a.qc]] w fun e w' => ∃ ao ac no nc, e = .returned (.tuple #[.slice ao 1 ac, .slice no 1 nc, .int .i64 0]) ∧ NS w' ao [M] ∧ NS w' no [T] ∧ Below w.heap.size w w' := by
  have hb1 := (Below.refl _ w).alloc (Nat.le_refl _) (.cells #[.string C, .string L] 31)
  have hb := hb1.alloc hb1.size (.cells #[.slice a.ga S.G.length a.gc, .slice a.va S.V.length a.vc, .slice a.qa S.Q.length a.qc] 49)
  have hU := (RUB.new w C L).below ((Below.refl _ (w.alloc (.cells #[.string C, .string L] 31))).alloc (Nat.le_refl _) (.cells #[.slice a.ga S.G.length a.gc, .slice a.va S.V.length a.vc, .slice a.qa S.Q.length a.qc] 49)) (RUB.new w C L).lt
  have hX := SXB.new (w.alloc (.cells #[.string C, .string L] 31)) a S
  rw [World.size_alloc] at hX
  have hS0 := hS.below hb (Nat.le_refl _)
  have HB := Lib.hid (sbounds_any C L a S _ hS0 hok s1 s2 (by rw [hV]; simpa using s3))
  have hn : S.V.length = 1 := by rw [hV]; rfl
  rw [hbd, show S.V.map (limP C L (ordL S.G)) = [(M, T)] by rw [hV]; simp [hMT]] at HB
  have x0 := hX.c0
  have x1 := hX.c1
  have x2 := hX.c2
  have u0 := hU.c0
  have u1 := hU.c1
  simp only [hn] at hb HB x0 x1 x2 u0 u1 ⊢
  obtain ⟨i0, hi, hz0, hz1, hz2⟩ := info_parts info_nat
  have HI := Lib.hid (And.intro hi (And.intro hz0 (And.intro hz1 hz2)))
  clear hi hz0 hz1 hz2 hok s1 s2 s3 hbd hMT hU hX hS hS0
  go_enter Tryz.func9, Tryz.ntmps9
  go_wp2_with fail
  refine HB.out.mono ?_; rintro e w1 (⟨h, _⟩ | ⟨_, lo, lc, rfl, hG, b1⟩)
  · exact absurd rfl h
  obtain ⟨lb, lof, rfl, e1, e2⟩ := hG 0 (by simp)
  simp only [Nat.zero_mul, Nat.add_zero, List.getElem_cons_zero] at e1 e2
  have hb1' := hb.trans (b1.mono hb.size)
  have bN := (Below.refl _ w1).alloc (Nat.le_refl _) (.cells #[.string M, .string T] 80)
  have hL := LMB.new w1 M T
  have hb2 := hb1'.trans (bN.mono hb1'.size)
  have c0 := hL.c0
  have c1 := hL.c1
  clear HB hG b1 x0 x1 x2 u0 u1 hb1
  go_wp2_with fail
  refine wp_loop_rounds 2 ?_
  rw [rounds_succ]
  go_wp2_with fail
  clear e1 e2 bN hb1' hL
  generalize w1.heap.size = q at c0 c1 ⊢
  generalize World.alloc w1 _ = w0 at c0 c1 hb2 ⊢
  obtain ⟨hi, hz0, hz1, hz2⟩ := HI.out
  have HMK : Hid (∀ w', Below w0.heap.size w0 w' → w'.cell? ⟨q, 0, none⟩ = some (.string M) ∧ w'.cell? ⟨q, 1, none⟩ = some (.string T)) := fun w' hb' => ⟨cells_keepL hb' (Nat.le_refl _) _ _ c0, cells_keepL hb' (Nat.le_refl _) _ _ c1⟩
  refine wp_region_held_drew (S := fun w' => w'.cell? ⟨q, 0, none⟩ = some (.string M) ∧ w'.cell? ⟨q, 1, none⟩ = some (.string T)) (by kernel_rfl) (HMK.out _ (Below.refl _ w0).drew) (fun hS0 => ?_)
  refine tkT 0 28 (.slice none 0 0) rfl rfl (by kernel_rfl) (fun _ _ _ _ _ h => h) (.inl ⟨by rfl, fun w' hSw => (by go_simp)⟩) (by assumption) ?_
  try simp only [put9T, List.set]
  refine tkT 1 29 (.pointer (some ⟨q, 0, none⟩)) rfl rfl (by kernel_rfl) (fun _ _ _ _ _ h => h) (.inl ⟨by rfl, fun w' hSw => (by go_simp)⟩) (by assumption) ?_
  try simp only [put9T, List.set]
  refine tkT 2 30 (.string M) rfl rfl (by kernel_rfl) (fun _ _ _ _ _ h => h) (.inl ⟨by rfl, fun w' hSw => (by obtain ⟨g0, g1⟩ := hSw; go_simp)⟩) (by assumption) ?_
  try simp only [put9T, List.set]
  refine tkT 5 33 (.slice none 0 0) rfl rfl (by kernel_rfl) (fun _ _ _ _ _ h => h) (.inl ⟨by rfl, fun w' hSw => (by go_simp)⟩) (by assumption) ?_
  try simp only [put9T, List.set]
  refine tkT 6 34 (.pointer (some ⟨q, 1, none⟩)) rfl rfl (by kernel_rfl) (fun _ _ _ _ _ h => h) (.inl ⟨by rfl, fun w' hSw => (by go_simp)⟩) (by assumption) ?_
  try simp only [put9T, List.set]
  refine tkT 7 35 (.string T) rfl rfl (by kernel_rfl) (fun _ _ _ _ _ h => h) (.inl ⟨by rfl, fun w' hSw => (by obtain ⟨g0, g1⟩ := hSw; go_simp)⟩) (by assumption) ?_
  try simp only [put9T, List.set]
  have b0 : Below w0.heap.size w0 w0.drew := (Below.refl _ w0).drew
  generalize w0.drew = W0 at b0 hS0 ⊢
  refine wpAnyH_ready (rs := [3, 8]) (by kernel_rfl) (by simp) ?_
  refine AllReadyH.cons rfl (fun K hK => ?_) (AllReadyH.cons rfl (fun K hK => ?_) AllReadyH.nil)
  · rw [if_pos (by rfl)]
    go_simp
    have kb := (Below.refl _ W0).alloc (Nat.le_refl _) (.cells #[.string M] 25)
    have hM := SB.new W0 M
    replace b0 := b0.trans (kb.mono b0.size)
    clear kb
    refine hK.out _ _ (HMK.out _ b0) (fun hS' => ?_)
    clear hK
    try simp only [put9T, List.set]
    generalize W0.heap.size = pM at hM ⊢
    generalize World.alloc W0 _ = W1 at hM b0 hS' ⊢
    refine wpAnyH_ready (rs := [4, 8]) (by kernel_rfl) (by simp) ?_
    refine AllReadyH.cons rfl (fun K hK => ?_) (AllReadyH.cons rfl (fun K hK => ?_) AllReadyH.nil)
    · rw [if_pos (by rfl)]
      refine wp_append_own _ (.tmp 28) (.tmp 31) 54 (by rfl) w0.heap.size 25 i0 (.string ⟨#[]⟩) 1 16 Tryz.underlying54 hi hz0 hz1 hz2 rfl (by decide) (.slice none 0 0) 0 [] (by rfl) ⟨rfl, .inl ⟨rfl, rfl⟩⟩ ⟨pM, 0, none⟩ 1 1 [.string M] (by rfl) rfl (oneL hM.c) (by simp [Value.oneCell']) (by unfold maxLen; omega) (by omega) b0.size ?_
      intro vM W2 oM hg _
      have kb : Below W1.heap.size W1 W2 := (Below.refl _ _).grown hg (Nat.le_refl _) (fun k e => by simp [Value.ownBlock] at e)
      clear hM
      replace b0 := b0.trans (kb.mono b0.size)
      clear kb hg
      refine hK.out _ _ (HMK.out _ b0) (fun hS' => ?_)
      try simp only [put9T, List.set]
      clear hK
      refine wpAnyH_ready (rs := [8]) (by kernel_rfl) (by simp) ?_
      refine AllReadyH.cons rfl (fun K hK => ?_) AllReadyH.nil
      rw [if_pos (by rfl)]
      go_simp
      have kb := (Below.refl _ W2).alloc (Nat.le_refl _) (.cells #[.string T] 25)
      replace oM := own_keepL kb oM
      have hT := SB.new W2 T
      replace b0 := b0.trans (kb.mono b0.size)
      clear kb
      refine hK.out _ _ (HMK.out _ b0) (fun hS' => ?_)
      clear hK
      try simp only [put9T, List.set]
      generalize W2.heap.size = pT at hT ⊢
      generalize World.alloc W2 _ = W3 at oM hT b0 hS' ⊢
      refine wpAnyH_ready (rs := [9]) (by kernel_rfl) (by simp) ?_
      refine AllReadyH.cons rfl (fun K hK => ?_) AllReadyH.nil
      rw [if_pos (by rfl)]
      refine wp_append_own _ (.tmp 33) (.tmp 36) 54 (by rfl) w0.heap.size 25 i0 (.string ⟨#[]⟩) 1 16 Tryz.underlying54 hi hz0 hz1 hz2 rfl (by decide) (.slice none 0 0) 0 [] (by rfl) ⟨rfl, .inl ⟨rfl, rfl⟩⟩ ⟨pT, 0, none⟩ 1 1 [.string T] (by rfl) rfl (oneL hT.c) (by simp [Value.oneCell']) (by unfold maxLen; omega) (by omega) b0.size ?_
      intro vT W4 oT hg _
      have kb : Below W3.heap.size W3 W4 := (Below.refl _ _).grown hg (Nat.le_refl _) (fun k e => by simp [Value.ownBlock] at e)
      clear hT
      replace oM := own_keepL kb oM
      replace b0 := b0.trans (kb.mono b0.size)
      clear kb hg
      refine hK.out _ _ (HMK.out _ b0) (fun hS' => ?_)
      try simp only [put9T, List.set]
      clear hK
      refine tkT 10 9 (vM) rfl rfl (by kernel_rfl) (fun _ _ _ _ _ h => h) (.inl ⟨by rfl, fun w' hSw => (by go_simp)⟩) (by assumption) ?_
      try simp only [put9T, List.set]
      refine tkT 11 10 (vT) rfl rfl (by kernel_rfl) (fun _ _ _ _ _ h => h) (.inl ⟨by rfl, fun w' hSw => (by go_simp)⟩) (by assumption) ?_
      try simp only [put9T, List.set]
      refine wpAnyH_done (by kernel_rfl) ?_ _
      obtain ⟨ao, ac, rfl, nM⟩ := own_NS (L := [M]) oM
      obtain ⟨no, nc, rfl, nT⟩ := own_NS (L := [T]) oT
      clear oM oT hS'
      go_wp2_with fail
      rw [rounds_succ]
      go_wp2_with fail
      go_ret3
      exact ⟨_, _, _, _, rfl, nM, nT, hb2.trans (b0.mono hb2.size)⟩
    · rw [if_pos (by rfl)]
      go_simp
      have kb := (Below.refl _ W1).alloc (Nat.le_refl _) (.cells #[.string T] 25)
      replace hM := hM.below kb hM.lt
      have hT := SB.new W1 T
      replace b0 := b0.trans (kb.mono b0.size)
      clear kb
      refine hK.out _ _ (HMK.out _ b0) (fun hS' => ?_)
      clear hK
      try simp only [put9T, List.set]
      generalize W1.heap.size = pT at hT ⊢
      generalize World.alloc W1 _ = W2 at hM hT b0 hS' ⊢
      refine wpAnyH_ready (rs := [4]) (by kernel_rfl) (by simp) ?_
      refine AllReadyH.cons rfl (fun K hK => ?_) AllReadyH.nil
      rw [if_pos (by rfl)]
      refine wp_append_own _ (.tmp 28) (.tmp 31) 54 (by rfl) w0.heap.size 25 i0 (.string ⟨#[]⟩) 1 16 Tryz.underlying54 hi hz0 hz1 hz2 rfl (by decide) (.slice none 0 0) 0 [] (by rfl) ⟨rfl, .inl ⟨rfl, rfl⟩⟩ ⟨pM, 0, none⟩ 1 1 [.string M] (by rfl) rfl (oneL hM.c) (by simp [Value.oneCell']) (by unfold maxLen; omega) (by omega) b0.size ?_
      intro vM W3 oM hg _
      have kb : Below W2.heap.size W2 W3 := (Below.refl _ _).grown hg (Nat.le_refl _) (fun k e => by simp [Value.ownBlock] at e)
      clear hM
      replace hT := hT.below kb hT.lt
      replace b0 := b0.trans (kb.mono b0.size)
      clear kb hg
      refine hK.out _ _ (HMK.out _ b0) (fun hS' => ?_)
      try simp only [put9T, List.set]
      clear hK
      refine wpAnyH_ready (rs := [9]) (by kernel_rfl) (by simp) ?_
      refine AllReadyH.cons rfl (fun K hK => ?_) AllReadyH.nil
      rw [if_pos (by rfl)]
      refine wp_append_own _ (.tmp 33) (.tmp 36) 54 (by rfl) w0.heap.size 25 i0 (.string ⟨#[]⟩) 1 16 Tryz.underlying54 hi hz0 hz1 hz2 rfl (by decide) (.slice none 0 0) 0 [] (by rfl) ⟨rfl, .inl ⟨rfl, rfl⟩⟩ ⟨pT, 0, none⟩ 1 1 [.string T] (by rfl) rfl (oneL hT.c) (by simp [Value.oneCell']) (by unfold maxLen; omega) (by omega) b0.size ?_
      intro vT W4 oT hg _
      have kb : Below W3.heap.size W3 W4 := (Below.refl _ _).grown hg (Nat.le_refl _) (fun k e => by simp [Value.ownBlock] at e)
      clear hT
      replace oM := own_keepL kb oM
      replace b0 := b0.trans (kb.mono b0.size)
      clear kb hg
      refine hK.out _ _ (HMK.out _ b0) (fun hS' => ?_)
      try simp only [put9T, List.set]
      clear hK
      refine tkT 10 9 (vM) rfl rfl (by kernel_rfl) (fun _ _ _ _ _ h => h) (.inl ⟨by rfl, fun w' hSw => (by go_simp)⟩) (by assumption) ?_
      try simp only [put9T, List.set]
      refine tkT 11 10 (vT) rfl rfl (by kernel_rfl) (fun _ _ _ _ _ h => h) (.inl ⟨by rfl, fun w' hSw => (by go_simp)⟩) (by assumption) ?_
      try simp only [put9T, List.set]
      refine wpAnyH_done (by kernel_rfl) ?_ _
      obtain ⟨ao, ac, rfl, nM⟩ := own_NS (L := [M]) oM
      obtain ⟨no, nc, rfl, nT⟩ := own_NS (L := [T]) oT
      clear oM oT hS'
      go_wp2_with fail
      rw [rounds_succ]
      go_wp2_with fail
      go_ret3
      exact ⟨_, _, _, _, rfl, nM, nT, hb2.trans (b0.mono hb2.size)⟩
  · rw [if_pos (by rfl)]
    go_simp
    have kb := (Below.refl _ W0).alloc (Nat.le_refl _) (.cells #[.string T] 25)
    have hT := SB.new W0 T
    replace b0 := b0.trans (kb.mono b0.size)
    clear kb
    refine hK.out _ _ (HMK.out _ b0) (fun hS' => ?_)
    clear hK
    try simp only [put9T, List.set]
    generalize W0.heap.size = pT at hT ⊢
    generalize World.alloc W0 _ = W1 at hT b0 hS' ⊢
    refine wpAnyH_ready (rs := [3]) (by kernel_rfl) (by simp) ?_
    refine AllReadyH.cons rfl (fun K hK => ?_) AllReadyH.nil
    rw [if_pos (by rfl)]
    go_simp
    have kb := (Below.refl _ W1).alloc (Nat.le_refl _) (.cells #[.string M] 25)
    replace hT := hT.below kb hT.lt
    have hM := SB.new W1 M
    replace b0 := b0.trans (kb.mono b0.size)
    clear kb
    refine hK.out _ _ (HMK.out _ b0) (fun hS' => ?_)
    clear hK
    try simp only [put9T, List.set]
    generalize W1.heap.size = pM at hM ⊢
    generalize World.alloc W1 _ = W2 at hT hM b0 hS' ⊢
    refine wpAnyH_ready (rs := [4]) (by kernel_rfl) (by simp) ?_
    refine AllReadyH.cons rfl (fun K hK => ?_) AllReadyH.nil
    rw [if_pos (by rfl)]
    refine wp_append_own _ (.tmp 28) (.tmp 31) 54 (by rfl) w0.heap.size 25 i0 (.string ⟨#[]⟩) 1 16 Tryz.underlying54 hi hz0 hz1 hz2 rfl (by decide) (.slice none 0 0) 0 [] (by rfl) ⟨rfl, .inl ⟨rfl, rfl⟩⟩ ⟨pM, 0, none⟩ 1 1 [.string M] (by rfl) rfl (oneL hM.c) (by simp [Value.oneCell']) (by unfold maxLen; omega) (by omega) b0.size ?_
    intro vM W3 oM hg _
    have kb : Below W2.heap.size W2 W3 := (Below.refl _ _).grown hg (Nat.le_refl _) (fun k e => by simp [Value.ownBlock] at e)
    clear hM
    replace hT := hT.below kb hT.lt
    replace b0 := b0.trans (kb.mono b0.size)
    clear kb hg
    refine hK.out _ _ (HMK.out _ b0) (fun hS' => ?_)
    try simp only [put9T, List.set]
    clear hK
    refine wpAnyH_ready (rs := [9]) (by kernel_rfl) (by simp) ?_
    refine AllReadyH.cons rfl (fun K hK => ?_) AllReadyH.nil
    rw [if_pos (by rfl)]
    refine wp_append_own _ (.tmp 33) (.tmp 36) 54 (by rfl) w0.heap.size 25 i0 (.string ⟨#[]⟩) 1 16 Tryz.underlying54 hi hz0 hz1 hz2 rfl (by decide) (.slice none 0 0) 0 [] (by rfl) ⟨rfl, .inl ⟨rfl, rfl⟩⟩ ⟨pT, 0, none⟩ 1 1 [.string T] (by rfl) rfl (oneL hT.c) (by simp [Value.oneCell']) (by unfold maxLen; omega) (by omega) b0.size ?_
    intro vT W4 oT hg _
    have kb : Below W3.heap.size W3 W4 := (Below.refl _ _).grown hg (Nat.le_refl _) (fun k e => by simp [Value.ownBlock] at e)
    clear hT
    replace oM := own_keepL kb oM
    replace b0 := b0.trans (kb.mono b0.size)
    clear kb hg
    refine hK.out _ _ (HMK.out _ b0) (fun hS' => ?_)
    try simp only [put9T, List.set]
    clear hK
    refine tkT 10 9 (vM) rfl rfl (by kernel_rfl) (fun _ _ _ _ _ h => h) (.inl ⟨by rfl, fun w' hSw => (by go_simp)⟩) (by assumption) ?_
    try simp only [put9T, List.set]
    refine tkT 11 10 (vT) rfl rfl (by kernel_rfl) (fun _ _ _ _ _ h => h) (.inl ⟨by rfl, fun w' hSw => (by go_simp)⟩) (by assumption) ?_
    try simp only [put9T, List.set]
    refine wpAnyH_done (by kernel_rfl) ?_ _
    obtain ⟨ao, ac, rfl, nM⟩ := own_NS (L := [M]) oM
    obtain ⟨no, nc, rfl, nT⟩ := own_NS (L := [T]) oT
    clear oM oT hS'
    go_wp2_with fail
    rw [rounds_succ]
    go_wp2_with fail
    go_ret3
    exact ⟨_, _, _, _, rfl, nM, nT, hb2.trans (b0.mono hb2.size)⟩
end Go.Proofs.YtapmeiaonnnmdaaGreatDoor

/- sigma.Commit at the statement of the squares modulo 77. -/
namespace Go.Proofs.YtapmeiaonnnmdaaGreatDoor
open Go.RowKit Num
set_option maxRecDepth 20000
set_option linter.unusedVariables false
theorem tpb_cell {w : World} {p off : Nat} {v0 v1 v2 v : Value} (h : TPB w p v0 v1 v2) (hc : w.cell? ⟨p, off, none⟩ = some v) : v = v0 ∨ v = v1 ∨ v = v2 := by
  rw [Lib.cell_of_heap h] at hc
  match off with
  | 0 => simp at hc; exact .inl hc.symm
  | 1 => simp at hc; exact .inr (.inl hc.symm)
  | 2 => simp at hc; exact .inr (.inr hc.symm)
  | k + 3 => simp at hc
theorem IS.noTPB {w : World} {ao : Option Addr} {l : List (Bool × ByteArray)} {p n c : Nat} {vo : Option Addr} {s : ByteArray} {i : Int} (h : IS w ao l) (hl : 0 < l.length) (ht : TPB w p (.slice vo n c) (.string s) (.int .i64 i)) : ∀ b off, ao = some ⟨b, off, none⟩ → b ≠ p := fun b off e hp => by
  obtain ⟨b', off', e', c0, _⟩ := h 0 hl
  rw [e] at e'
  cases e'
  subst hp
  rcases tpb_cell ht c0 with h | h | h <;> cases h
theorem NS.heap {w w' : World} {ao : Option Addr} {l : List ByteArray} (h : NS w ao l) (hh : ∀ b off, ao = some ⟨b, off, none⟩ → w'.heap[b]? = w.heap[b]?) : NS w' ao l := fun k hk => by
  obtain ⟨b, off, e, c0⟩ := h k hk
  exact ⟨b, off, e, (cell_same (hh b off e) _).trans c0⟩
theorem NS.noTPB {w : World} {ao : Option Addr} {s : ByteArray} {p n c : Nat} {vo : Option Addr} {i : Int} (h : NS w ao [s]) (hs : s ≠ ⟨#[]⟩) (ht : TPB w p (.slice vo n c) (.string ⟨#[]⟩) (.int .i64 i)) : ∀ b off, ao = some ⟨b, off, none⟩ → b ≠ p := fun b off e hp => by
  obtain ⟨b', off', e', c0⟩ := h 0 (by simp)
  rw [e] at e'
  cases e'
  subst hp
  rcases tpb_cell ht c0 with h | h | h
  · cases h
  · injection h with h; exact hs h
  · cases h
theorem enc_neE {n : Nat} (h : 0 < n) : enc n ≠ ⟨#[]⟩ := fun e => by
  have := emE h
  rw [e] at this
  revert this
  decide +kernel
theorem pw_pos (z : Int) : 0 < pw z := by
  have h : ∀ i, i < 15 → 0 < 4 ^ i % 77 := by decide
  exact h _ (by omega)
/-- the world behind a boxed rule, statement and tape, and a tape -/
theorem box_rs2 (w : World) (C L : ByteArray) (a : StA) (S : StM) (v0 v1 v2 : Value) : ∃ W, (((w.alloc (.cells #[.string C, .string L] 31)).alloc (.cells #[.slice a.ga S.G.length a.gc, .slice a.va S.V.length a.vc, .slice a.qa S.Q.length a.qc] 49)).alloc (.cells #[v0, v1, v2] 63)).alloc (.cells #[.slice none 0 0, .string ⟨#[]⟩, .int .i64 0] 63) = W ∧
    RUB W w.heap.size C L ∧ SXB W (w.heap.size + 1) a S ∧ TPB W (w.heap.size + 1 + 1) v0 v1 v2 ∧ TPB W (w.heap.size + 1 + 1 + 1) (.slice none 0 0) (.string ⟨#[]⟩) (.int .i64 0) ∧ Below w.heap.size w W := by
  have h0 := RUB.new w C L
  have b0 := (Below.refl _ w).alloc (Nat.le_refl _) (.cells #[.string C, .string L] 31)
  obtain ⟨W, hW, h1, h2, h3, b1⟩ := box_st2 (w.alloc (.cells #[.string C, .string L] 31)) a S v0 v1 v2
  rw [World.size_alloc] at h1 h2 h3 b1
  exact ⟨W, hW, h0.below b1 (Nat.lt_succ_self _), h1, h2, h3, b0.trans (b1.mono (Nat.le_succ _))⟩
theorem results_nntt {fn : Func} {p u x y : Tmp} {ty : TypeId} (h : fn.results = #[.tmp x, .tmp y, .cell p ty, .tmp u]) (tmps : Array Value) (P : Program) (w : World) :
    (results fn tmps).run P w = ((asAddr (tmps.getD p undef)).run P w).andThen fun a w1 => ((loadVar ty a).run P w1).andThen fun v w2 => .ok (.tuple #[tmps.getD x undef, tmps.getD y undef, v, tmps.getD u undef]) w2 := by
  simp only [results, h]
  simp [Sem.run_bind, Result.andThen]
theorem bodyPost_nntt {fn : Func} {R : Ending → World → Prop} {p u x y : Tmp} {b : Nat} {a : Act} {W : World} {v0 v1 v2 vx vy vu : Value} (h : fn.results = #[.tmp x, .tmp y, .cell p 63, .tmp u]) (hp : a.tmps.getD p undef = .pointer (some ⟨b, 0, none⟩)) (hx : a.tmps.getD x undef = vx) (hy : a.tmps.getD y undef = vy) (hu : a.tmps.getD u undef = vu)
    (hb : TPB W b v0 v1 v2) (hd : a.defers = []) (hR : R (.returned (.tuple #[vx, vy, .agg #[v0, v1, v2], vu])) W) : bodyPost Tryz.prog fn R Exit.ret a W := by
  refine bodyPost_ret (v := .tuple #[vx, vy, .agg #[v0, v1, v2], vu]) (w := W) ?_ hd hR
  rw [results_nntt h, hp, hx, hy, hu]
  simp [asAddr, Result.andThen, run_loadVar_row W b _ _ _ (0, 0) _ hb Tryz.underlying63 rfl info_tape]
set_option maxHeartbeats 4000000 in
theorem sCommit_tt (K L : Nat) (h1 : 2 ≤ K) (h2 : K < 4) (h3 : 2 ≤ L) (h4 : L < 4) (g : Int) (a : StA) (ta : Option Addr) (tc : Nat) (S : StM) (hSe : ttS (enc (pw g)) ta tc = S) (vo : Option Addr) (c x : Nat) (w : World) (hS : SS w a S) (hN : NS w vo [enc x]) (hlt : x < 2 * (L * K * 20) - 1) :
    Calls Tryz.prog 15 #[.agg #[.string (enc K), .string (enc L)], .agg #[.slice a.ga S.G.length a.gc, .slice a.va S.V.length a.vc, .slice a.qa S.Q.length a.qc], .agg #[.slice vo 1 c, .string ⟨#[]⟩, .int .i64 0]] w fun e w' => ∃ ao ac fo fc no nc, e = .returned (.tuple #[.slice ao 1 ac, .slice fo 1 fc, .agg #[.slice no 1 nc, .string ⟨#[]⟩, .int .i64 1], .int .i64 0]) ∧ IS w' ao [(zb ((x : Int) - ((L * K * 20 : Nat) - 1)), zs ((x : Int) - ((L * K * 20 : Nat) - 1)))] ∧ NS w' fo [enc (pw ((x : Int) - ((L * K * 20 : Nat) - 1)))] ∧ Below w.heap.size w w' := by
  obtain ⟨W, hW, hU, hX, hP, hR, hb⟩ := box_rs2 w (enc K) (enc L) a S (.slice vo 1 c) (.string ⟨#[]⟩) (.int .i64 0)
  have hS0 := hS.below hb (Nat.le_refl _)
  have hN0 := hN.keepL (cells_keepL hb (Nat.le_refl _))
  have hok : S.ok := by rw [← hSe]; exact tt_ok g ta tc
  have hV : S.V = [⟨#[20]⟩] := by rw [← hSe]; rfl
  have hn : S.V.length = 1 := by rw [hV]; rfl
  have hbd : bdE (enc K) (enc L) S.pl = 0 := by rw [← hSe]; exact tt_bd g K L h1 h2 h3 h4 ta tc
  have hKL : L * K * 20 ≤ 180 := by
    have : L * K ≤ 3 * 3 := Nat.mul_le_mul (by omega) (by omega)
    omega
  have hKL1 : 1 ≤ L * K * 20 := by
    have : 2 * 2 ≤ L * K := Nat.mul_le_mul (by omega) (by omega)
    omega
  have sz : ∀ k, k < 4 → (enc k).size ≤ 8 := fun k hk => by rw [size_enc]; exact Nat.le_trans ((blen_le_iff k 1).2 (by omega)) (by omega)
  have HB := Lib.hid (sbounds_any (enc K) (enc L) a S W hS0 hok (sz K h2) (sz L h4) (by rw [hV]; simp; decide))
  rw [hbd, show S.V.map (limP (enc K) (enc L) (ordL S.G)) = [(enc (L * K * 20), enc (L * K * 20 - (K - 1) * 19))] by rw [hV]; simp [tt_lim]] at HB
  generalize hm : L * K * 20 = m at hlt hKL hKL1 HB ⊢
  have HD := Lib.hid (fun w' (hb' : Below W.heap.size W w') lo lc (hl : GSl w' lo [(enc m, enc (m - (K - 1) * 19))]) => sdraw_one a S ⟨#[20]⟩ lo lc m _ vo c x w' (hS0.below hb' (Nat.le_refl _)) hV (by decide +kernel) hl (hN0.keepL (cells_keepL hb' (Nat.le_refl _))) hKL1 (by omega) hlt)
  obtain ⟨z, hz⟩ : ∃ z : Int, (x : Int) - ((m : Int) - 1) = z := ⟨_, rfl⟩
  have hzs : z.natAbs < 65536 := by omega
  rw [hz] at HD ⊢
  have HI := Lib.hid (fun w' (hb' : Below w.heap.size w w') bo bc (hl : IS w' bo [(zb z, zs z)]) => limages_any a S bo 1 bc [(zb z, zs z)] w' (hS.below hb' (Nat.le_refl _)) hok hl rfl (by decide) (by rw [← hSe]; exact tt_sms _ z hzs ta tc))
  have hi1 : imgS S.pl [(zb z, zs z)] = [enc (pw z)] := by rw [← hSe]; exact tt_img g z hzs ta tc
  have hi2 : rdE S.pl [(zb z, zs z)] = 0 := by rw [← hSe]; exact tt_rd g z hzs ta tc
  rw [hi1, hi2] at HI
  simp only [List.length_singleton] at HI
  have x0 := hX.c0
  have x1 := hX.c1
  have x2 := hX.c2
  have u0 := hU.c0
  have u1 := hU.c1
  simp only [hn] at hW HB HD HI x1 ⊢
  have HEN := Lib.hid (enc_neE (pw_pos z))
  generalize enc (pw z) = F at HI HEN ⊢
  generalize zb z = zg at HD HI ⊢
  generalize zs z = ze at HD HI ⊢
  clear hS hN hS0 hN0 hok hV hbd hm hlt hKL hKL1 hz hzs hi1 hi2 sz hU
  go_enter Tryz.func15, Tryz.ntmps15
  go_wp2_with fail
  clear hW
  refine HB.out.mono ?_; rintro e w1 (⟨h, _⟩ | ⟨_, lo, lc, rfl, hG, b1⟩)
  · exact absurd rfl h
  replace hX := hX.below b1 hX.lt
  replace hP := hP.below b1 hP.lt
  replace hR := hR.below b1 hR.lt
  replace hb := hb.trans (b1.mono hb.size)
  replace HD := Lib.hid (HD.out w1 b1 lo lc hG)
  clear x0 x1 x2 u0 u1 HB b1 hG
  have x0 := hX.c0
  have x1 := hX.c1
  have x2 := hX.c2
  have p0 := hP.c0
  have p1 := hP.c1
  have p2 := hP.c2
  have p3 := hP.f 0
  have p4 := hP.f 1
  have p5 := hP.f 2
  simp only [hn] at x1
  go_wp2_with fail
  refine HD.out.mono ?_; rintro e w2 ⟨ao, ac, no, nc, rfl, hIS, b2⟩
  replace hX := hX.below b2 hX.lt
  replace hP := hP.below b2 hP.lt
  replace hR := hR.below b2 hR.lt
  replace hb := hb.trans (b2.mono hb.size)
  clear x0 x1 x2 p0 p1 p2 p3 p4 p5 b2 HD
  have hP3 := hP.put (v0 := .slice no 1 nc) (v1 := .string ⟨#[]⟩) (v2 := .int .i64 1)
  have hX3 : SXB _ (w.heap.size + 1) a S := (put3_other w2 (w.heap.size + 1 + 1) (.slice no 1 nc) (.string ⟨#[]⟩) (.int .i64 1) (w.heap.size + 1) (by omega)).trans hX
  have hR3 : TPB _ (w.heap.size + 1 + 1 + 1) _ _ _ := (put3_other w2 (w.heap.size + 1 + 1) (.slice no 1 nc) (.string ⟨#[]⟩) (.int .i64 1) (w.heap.size + 1 + 1 + 1) (by omega)).trans hR
  have hI3 := hIS.heap (w' := ((w2.setCell ⟨w.heap.size + 1 + 1, 0, none⟩ (.slice no 1 nc)).setCell ⟨w.heap.size + 1 + 1, 1, none⟩ (.string ⟨#[]⟩)).setCell ⟨w.heap.size + 1 + 1, 2, none⟩ (.int .i64 1)) (fun b off e => put3_other w2 (w.heap.size + 1 + 1) _ _ _ b (hIS.noTPB (by simp) hP b off e))
  have hb3 := ((hb.setCell (p := ⟨w.heap.size + 1 + 1, 0, none⟩) (by simp; omega) (.slice no 1 nc)).setCell (p := ⟨w.heap.size + 1 + 1, 1, none⟩) (by simp; omega) (.string ⟨#[]⟩)).setCell (p := ⟨w.heap.size + 1 + 1, 2, none⟩) (by simp; omega) (.int .i64 1)
  have p0 := hP.c0
  have p1 := hP.c1
  have p2 := hP.c2
  have p3 := hP.f 0
  have p4 := hP.f 1
  have p5 := hP.f 2
  have x0 := hX3.c0
  have x1 := hX3.c1
  have x2 := hX3.c2
  simp only [hn] at x1
  clear hX hR hIS hb
  go_wp2_with fail
  clear p0 p1 p2 p3 p4 p5 hP
  generalize World.setCell (World.setCell (World.setCell w2 _ _) _ _) _ _ = w3 at hP3 hX3 hR3 hI3 hb3 x0 x1 x2 ⊢
  refine (HI.out w3 hb3 ao ac hI3).mono ?_; rintro e w4 ⟨fo, m', fc, rfl, hm', hN4, b4⟩
  subst hm'
  have hP4 := hP3.below b4 hP3.lt
  have hR4 := hR3.below b4 hR3.lt
  have hI4 := hI3.keepL (cells_keepL b4 (Nat.le_refl _))
  have hb4 := hb3.trans (b4.mono hb3.size)
  clear x0 x1 x2 hX3 hP3 hR3 hI3 hb3 b4 HI
  have p0 := hP4.c0
  have p1 := hP4.c1
  have p2 := hP4.c2
  have r0 := hR4.c0
  have r1 := hR4.c1
  have r2 := hR4.c2
  have r3 := hR4.f 0
  have r4 := hR4.f 1
  have r5 := hR4.f 2
  go_wp2_with fail
  go_region
  go_wp2_with fail
  have hR9 := hR4.put (v0 := .slice no 1 nc) (v1 := .string ⟨#[]⟩) (v2 := .int .i64 1)
  have hI9 := hI4.heap (w' := ((w4.setCell ⟨w.heap.size + 1 + 1 + 1, 0, none⟩ (.slice no 1 nc)).setCell ⟨w.heap.size + 1 + 1 + 1, 1, none⟩ (.string ⟨#[]⟩)).setCell ⟨w.heap.size + 1 + 1 + 1, 2, none⟩ (.int .i64 1)) (fun b off e => put3_other w4 (w.heap.size + 1 + 1 + 1) _ _ _ b (hI4.noTPB (by simp) hR4 b off e))
  have hN9 := hN4.heap (w' := ((w4.setCell ⟨w.heap.size + 1 + 1 + 1, 0, none⟩ (.slice no 1 nc)).setCell ⟨w.heap.size + 1 + 1 + 1, 1, none⟩ (.string ⟨#[]⟩)).setCell ⟨w.heap.size + 1 + 1 + 1, 2, none⟩ (.int .i64 1)) (fun b off e => put3_other w4 (w.heap.size + 1 + 1 + 1) _ _ _ b (hN4.noTPB HEN.out hR4 b off e))
  have hb9 := ((hb4.setCell (p := ⟨w.heap.size + 1 + 1 + 1, 0, none⟩) (by simp; omega) (.slice no 1 nc)).setCell (p := ⟨w.heap.size + 1 + 1 + 1, 1, none⟩) (by simp; omega) (.string ⟨#[]⟩)).setCell (p := ⟨w.heap.size + 1 + 1 + 1, 2, none⟩) (by simp; omega) (.int .i64 1)
  refine bodyPost_nntt rfl rfl rfl rfl rfl hR9 rfl ?_
  exact ⟨_, _, _, _, _, _, rfl, hI9, hN9, hb9.drew⟩
end Go.Proofs.YtapmeiaonnnmdaaGreatDoor
