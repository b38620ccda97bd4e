import Derived.Test.YtdhhbjmkdmbffaaGreatDoorLjF
/- linear.Join. -/
namespace Go.Proofs.YtdhhbjmkdmbffaaGreatDoor
open Go.RowKit Num
set_option maxRecDepth 20000
set_option linter.unusedVariables false
/-- a name for it -/
def FormT (S : StP) : Prop := formB S = true
theorem take_all_of {α : Type} {p : α → Bool} {L : List α} (h : L.all p = true) {k : Nat} (hk : k < L.length) : p L[k] = true := List.all_eq_true.1 h _ (List.getElem_mem hk)
theorem JoP.fail {z : Int} {w w' : World} {p : Nat} (hb : Below w.heap.size w w') (hp : w.heap.size ≤ p) : JoP (noJ z) w (.returned (.tuple #[.agg #[.slice none 0 0, .slice none 0 0, .slice none 0 0], .slice none 0 0, .int .i64 z])) (((w'.setCell ⟨p, 0, none⟩ (.slice none 0 0)).setCell ⟨p, 1, none⟩ (.slice none 0 0)).setCell ⟨p, 2, none⟩ (.slice none 0 0)) :=
 JoP.no (((hb.setCell (p := ⟨p, 0, none⟩) hp _).setCell (p := ⟨p, 1, none⟩) hp _).setCell (p := ⟨p, 2, none⟩) hp _)
theorem JoP.failA {z : Int} {w w' : World} {p : Nat} (hb : Below w.heap.size w w') (hp : w.heap.size ≤ p) (o : Obj) : JoP (noJ z) w (.returned (.tuple #[.agg #[.slice none 0 0, .slice none 0 0, .slice none 0 0], .slice none 0 0, .int .i64 z])) ((((w'.setCell ⟨p, 0, none⟩ (.slice none 0 0)).setCell ⟨p, 1, none⟩ (.slice none 0 0)).setCell ⟨p, 2, none⟩ (.slice none 0 0)).alloc o) := by
 have h3 := ((hb.setCell (p := ⟨p, 0, none⟩) hp (.slice none 0 0)).setCell (p := ⟨p, 1, none⟩) hp (.slice none 0 0)).setCell (p := ⟨p, 2, none⟩) hp (.slice none 0 0)
 exact JoP.no (h3.alloc h3.size o)
theorem own_monoJ {w : World} {K K' e size n : Nat} {v : Value} {xs : List Value} (h : w.ownsRow K e size v n xs) (hb : K' ≤ K) : w.ownsRow K' e size v n xs :=
 ⟨h.1, h.2.imp id fun ⟨g, cap, cur, a, b, c⟩ => ⟨g, cap, cur, a, Nat.le_trans hb b, c⟩⟩
theorem own_slice {w : World} {K e size n : Nat} {v : Value} {xs : List Value} (h : w.ownsRow K e size v n xs) : ∃ ao c, v = .slice ao n c := by
 rcases h.2 with ⟨e, h0⟩ | ⟨g, cap, cur, e, _⟩
 ·
  exact ⟨none, 0, by rw [e, h0]⟩
 ·
  exact ⟨_, _, e⟩
theorem threeL {W : World} {g : Nat} {v u t : Value} (h : W.cell? ⟨g, 0, none⟩ = some v) (h1 : W.cell? ⟨g, 1, none⟩ = some u) (h2 : W.cell? ⟨g, 2, none⟩ = some t) : ∀ j x, [v, u, t][j]? = some x → W.cell? ((⟨g, 0, none⟩ : Addr).add j) = some x := by
 intro j x hx
 rw [addr_addT, Nat.zero_add]
 match j, hx with
 | 0, hx => injection hx with hx; rw [← hx]; exact h
 | 1, hx => injection hx with hx; rw [← hx]; exact h1
 | 2, hx => injection hx with hx; rw [← hx]; exact h2
theorem takeQ {Qs Q : List EqR} {k : Nat} {x : EqR} (h : Qs.map eqp = (Q.take k).map eqp) (hk : k < Q.length) (hx : eqp x = eqp Q[k]) : Hid ((Qs ++ [x]).map eqp = (Q.take (k + 1)).map eqp) := by
 show _ = _
 rw [List.map_append, h, List.take_succ_eq_append_getElem hk, List.map_append, List.map_cons, List.map_nil, hx, List.map_cons, List.map_nil]
theorem takeJ {Qs Q : List EqR} {k n : Nat} {J : List Int} {X : List EqP} {x : EqR} (h : Qs.map eqp = X ++ (Q.take k).map (fun q => jQ n J (eqp q))) (hk : k < Q.length) (hx : eqp x = jQ n J (eqp Q[k])) : Hid ((Qs ++ [x]).map eqp = X ++ (Q.take (k + 1)).map (fun q => jQ n J (eqp q))) := by
 show _ = _
 rw [List.map_append, h, List.take_succ_eq_append_getElem hk, List.map_append, List.map_cons, List.map_nil, hx, List.map_cons, List.map_nil, List.append_assoc]
theorem OB.alloc {w : World} {p : Nat} {a b c : Value} (h : OB w p a b c) (o : Obj) : OB (w.alloc o) p a b c := (Below.heap_alloc w o p h.lt).trans h
theorem TmO.belowJ {w w' : World} {ao : Option Addr} (h : TmO w ao) (hb : Below w.heap.size w w') : TmO w' ao := fun b off he => by
 obtain ⟨cur, h1⟩ := h b off he
 exact ⟨cur, (hb.block b (Array.getElem?_eq_some_iff.1 h1).1).trans h1⟩
/-- two statements in a row -/
theorem two_st {w : World} {a b : StA} {A B : StM} {q : Nat} (h : w.heap[q]? = some (.cells #[.slice a.ga A.G.length a.gc, .slice a.va A.V.length a.vc, .slice a.qa A.Q.length a.qc, .slice b.ga B.G.length b.gc, .slice b.va B.V.length b.vc, .slice b.qa B.Q.length b.qc] 49 (0, 0))) :
  w.cell? ⟨q, 0, none⟩ = some (.slice a.ga A.G.length a.gc) ∧ w.cell? ⟨q, 1, none⟩ = some (.slice a.va A.V.length a.vc) ∧ w.cell? ⟨q, 2, none⟩ = some (.slice a.qa A.Q.length a.qc) ∧ w.cell? ⟨q, 3, none⟩ = some (.slice b.ga B.G.length b.gc) ∧ w.cell? ⟨q, 4, none⟩ = some (.slice b.va B.V.length b.vc) ∧ w.cell? ⟨q, 5, none⟩ = some (.slice b.qa B.Q.length b.qc) := by
 refine ⟨?_, ?_, ?_, ?_, ?_, ?_⟩ <;> (rw [Lib.cell_of_heap h]; rfl)
set_option maxHeartbeats 32000000 in
theorem ljoin_any (a b : StA) (A B : StM) (po : Option Addr) (np pc : Nat) (P : List PRt) (w : World) (hA : SS w a A) (hB : SS w b B) (okA : A.ok) (okB : B.ok) (hP : PSl w po P) (hn : P.length = np) (hn1 : np ≤ 1000) :
  Calls Tryz.prog 17 #[.agg #[.slice a.ga A.G.length a.gc, .slice a.va A.V.length a.vc, .slice a.qa A.Q.length a.qc], .agg #[.slice b.ga B.G.length b.gc, .slice b.va B.V.length b.vc, .slice b.qa B.Q.length b.qc], .slice po np pc] w (JoP (joinR A.pl B.pl P) w) := by
 have hb1 := (Below.refl _ w).alloc (Nat.le_refl _) (.cells #[.slice a.ga A.G.length a.gc, .slice a.va A.V.length a.vc, .slice a.qa A.Q.length a.qc] 49)
 have hb2 := hb1.alloc hb1.size (.cells #[.slice b.ga B.G.length b.gc, .slice b.va B.V.length b.vc, .slice b.qa B.Q.length b.qc] 49)
 have hb := hb2.alloc hb2.size (.cells #[.slice none 0 0, .slice none 0 0, .slice none 0 0] 49)
 have hX := SXB.new w a A
 have hY := SXB.new (w.alloc (.cells #[.slice a.ga A.G.length a.gc, .slice a.va A.V.length a.vc, .slice a.qa A.Q.length a.qc] 49)) b B
 have hZ := OB.new ((w.alloc (.cells #[.slice a.ga A.G.length a.gc, .slice a.va A.V.length a.vc, .slice a.qa A.Q.length a.qc] 49)).alloc (.cells #[.slice b.ga B.G.length b.gc, .slice b.va B.V.length b.vc, .slice b.qa B.Q.length b.qc] 49)) (.slice none 0 0) (.slice none 0 0) (.slice none 0 0)
 have hbY := (Below.refl _ ((w.alloc (.cells #[.slice a.ga A.G.length a.gc, .slice a.va A.V.length a.vc, .slice a.qa A.Q.length a.qc] 49)).alloc (.cells #[.slice b.ga B.G.length b.gc, .slice b.va B.V.length b.vc, .slice b.qa B.Q.length b.qc] 49))).alloc (Nat.le_refl _) (.cells #[.slice none 0 0, .slice none 0 0, .slice none 0 0] 49)
 have hY1 := hY.below hbY hY.lt
 have hX1 := (hX.below ((Below.refl _ (w.alloc (.cells #[.slice a.ga A.G.length a.gc, .slice a.va A.V.length a.vc, .slice a.qa A.Q.length a.qc] 49))).alloc (Nat.le_refl _) (.cells #[.slice b.ga B.G.length b.gc, .slice b.va B.V.length b.vc, .slice b.qa B.Q.length b.qc] 49)) hX.lt).below hbY (Nat.lt_of_lt_of_le hX.lt (by simp))
 rw [World.size_alloc] at hY1
 rw [World.size_alloc, World.size_alloc] at hZ
 have hN := two_st (a := a) (b := b) (A := A) (B := B) (heap_alloc_new (((w.alloc (.cells #[.slice a.ga A.G.length a.gc, .slice a.va A.V.length a.vc, .slice a.qa A.Q.length a.qc] 49)).alloc (.cells #[.slice b.ga B.G.length b.gc, .slice b.va B.V.length b.vc, .slice b.qa B.Q.length b.qc] 49)).alloc (.cells #[.slice none 0 0, .slice none 0 0, .slice none 0 0] 49)) (.cells #[.slice a.ga A.G.length a.gc, .slice a.va A.V.length a.vc, .slice a.qa A.Q.length a.qc, .slice b.ga B.G.length b.gc, .slice b.va B.V.length b.vc, .slice b.qa B.Q.length b.qc] 49))
 have hbN := (Below.refl _ (((w.alloc (.cells #[.slice a.ga A.G.length a.gc, .slice a.va A.V.length a.vc, .slice a.qa A.Q.length a.qc] 49)).alloc (.cells #[.slice b.ga B.G.length b.gc, .slice b.va B.V.length b.vc, .slice b.qa B.Q.length b.qc] 49)).alloc (.cells #[.slice none 0 0, .slice none 0 0, .slice none 0 0] 49))).alloc (Nat.le_refl _) (.cells #[.slice a.ga A.G.length a.gc, .slice a.va A.V.length a.vc, .slice a.qa A.Q.length a.qc, .slice b.ga B.G.length b.gc, .slice b.va B.V.length b.vc, .slice b.qa B.Q.length b.qc] 49)
 rw [World.size_alloc, World.size_alloc, World.size_alloc] at hN
 have hA0 := hA.below hb (Nat.le_refl _)
 have hB0 := hB.below hb (Nat.le_refl _)
 have hP0 := hP.keep (cells_keepL hb (Nat.le_refl _))
 have HR3 : Hid (¬ (formB A.pl = true ∧ formB B.pl = true) → joinR A.pl B.pl P = noJ 3) := joinR_form
 have HRA : Hid ((formB A.pl = true ∧ formB B.pl = true) → lckE A.pl ≠ 0 → joinR A.pl B.pl P = noJ (lckE A.pl)) := fun h h1 => by rw [lck_of h.1] at h1 ⊢; exact joinR_a h h1
 have HRB : Hid ((formB A.pl = true ∧ formB B.pl = true) → lckE A.pl = 0 → lckE B.pl ≠ 0 → joinR A.pl B.pl P = noJ (lckE B.pl)) := fun h h1 h2 => by rw [lck_of h.1] at h1; rw [lck_of h.2] at h2 ⊢; exact joinR_b h h1 h2
 have HR2 : Hid ((formB A.pl = true ∧ formB B.pl = true) → lckE A.pl = 0 → lckE B.pl = 0 → P.all (prOk A.V.length B.V.length) = false → joinR A.pl B.pl P = noJ 2) := fun h h1 h2 h3 => by rw [lck_of h.1] at h1; rw [lck_of h.2] at h2; exact joinR_rng h h1 h2 h3
 have HRP : Hid ((formB A.pl = true ∧ formB B.pl = true) → lckE A.pl = 0 → lckE B.pl = 0 → P.all (prOk A.V.length B.V.length) = true → joinR A.pl B.pl P = plJ A.pl B.pl P) := fun h h1 h2 h3 => by rw [lck_of h.1] at h1; rw [lck_of h.2] at h2; exact joinR_pl h h1 h2 h3
 have HFW : Hid ((formB A.pl = true ∧ formB B.pl = true) → lckE A.pl = 0 → lckE B.pl = 0 → FewS A.pl ∧ FewS B.pl ∧ StPok A.pl ∧ StPok B.pl ∧ FormT A.pl ∧ FormT B.pl) := fun h h1 h2 => by rw [lck_of h.1] at h1; rw [lck_of h.2] at h2; exact ⟨fewS_of h1, fewS_of h2, StM.ok_pl okA, StM.ok_pl okB, h.1, h.2⟩
 have HFA := Lib.hid (fun w' (hb' : Below _ _ w') => form_any a A w' (hA0.below hb' (Nat.le_refl _)) okA)
 have HFB := Lib.hid (fun w' (hb' : Below _ _ w') => form_any b B w' (hB0.below hb' (Nat.le_refl _)) okB)
 have HCA := Lib.hid (fun w' (hb' : Below _ _ w') => lcheck_any a A w' (hA0.below hb' (Nat.le_refl _)) okA)
 have HCB := Lib.hid (fun w' (hb' : Below _ _ w') => lcheck_any b B w' (hB0.below hb' (Nat.le_refl _)) okB)
 obtain ⟨R, hR⟩ : ∃ R, joinR A.pl B.pl P = R := ⟨_, rfl⟩
 rw [hR] at HR3 HRA HRB HR2 HRP ⊢
 obtain ⟨FA, hFA⟩ : ∃ F, formB A.pl = F := ⟨_, rfl⟩
 obtain ⟨FB, hFB⟩ : ∃ F, formB B.pl = F := ⟨_, rfl⟩
 obtain ⟨CA, hCA⟩ : ∃ F, lckE A.pl = F := ⟨_, rfl⟩
 obtain ⟨CB, hCB⟩ : ∃ F, lckE B.pl = F := ⟨_, rfl⟩
 rw [hFA, hFB] at HR3
 rw [hFA, hFB, hCA] at HRA
 rw [hFA, hFB, hCA, hCB] at HRB HR2 HRP HFW
 rw [hFA] at HFA
 rw [hFB] at HFB
 rw [hCA] at HCA
 rw [hCB] at HCB
 have HAA := Lib.hid hA0
 have HBB := Lib.hid hB0
 have HPP := Lib.hid hP0
 have HNP := Lib.hid hn
 clear hR hFA hFB hCA hCB hA hB hA0 hB0 okA okB hP hP0 hn hX hY hbY hb1 hb2
 go_enter Tryz.func17, Tryz.ntmps17
 go_wp2_with fail
 generalize hw1 : World.alloc (World.alloc (World.alloc (World.alloc w _) _) _) _ = w1 at hN hbN ⊢
 generalize hw0 : World.alloc (World.alloc (World.alloc w _) _) _ = w0 at hb hX1 hY1 hZ hbN HFA HFB HCA HCB HAA HBB HPP
 clear hw0 hw1
 have x0 := hX1.c0
 have x1 := hX1.c1
 have x2 := hX1.c2
 have y0 := hY1.c0
 have y1 := hY1.c1
 have y2 := hY1.c2
 obtain ⟨n0, n1, n2, n3, n4, n5⟩ := hN
 go_loopw [37] (fun v37 wr => ∃ k : Nat, k ≤ 2 ∧ v37 = .int .i64 (k : Int) ∧ (1 ≤ k → FA = true) ∧ (2 ≤ k → FB = true) ∧ Below w1.heap.size w1 wr) (fun v37 _ => 2 - (intOf v37).toNat)
 case atStart => exact ⟨0, by omega, rfl, fun h => by omega, fun h => by omega, Below.refl _ _⟩
 case round =>
  obtain ⟨k, hk, rfl, hfa, hfb, hB⟩ := hrel
  have hB0 := hbN.trans (hB.mono hbN.size)
  have hbw := hb.trans (hB0.mono hb.size)
  have hZw := hZ.below hB0 hZ.lt
  have d0 := cells_keepL hB0 (Nat.le_refl _) _ _ x0
  have d1 := cells_keepL hB0 (Nat.le_refl _) _ _ x1
  have d2 := cells_keepL hB0 (Nat.le_refl _) _ _ x2
  have d3 := cells_keepL hB0 (Nat.le_refl _) _ _ y0
  have d4 := cells_keepL hB0 (Nat.le_refl _) _ _ y1
  have d5 := cells_keepL hB0 (Nat.le_refl _) _ _ y2
  have e0 := cells_keepL hB (Nat.le_refl _) _ _ n0
  have e1 := cells_keepL hB (Nat.le_refl _) _ _ n1
  have e2 := cells_keepL hB (Nat.le_refl _) _ _ n2
  have e3 := cells_keepL hB (Nat.le_refl _) _ _ n3
  have e4 := cells_keepL hB (Nat.le_refl _) _ _ n4
  have e5 := cells_keepL hB (Nat.le_refl _) _ _ n5
  clear n0 n1 n2 n3 n4 n5
  rcases (show k = 0 ∨ k = 1 ∨ k = 2 by omega) with rfl | rfl | rfl
  ·
   have hN := SXB.new wr a A
   have hbA := (Below.refl _ wr).alloc (Nat.le_refl _) (.cells #[.slice a.ga A.G.length a.gc, .slice a.va A.V.length a.vc, .slice a.qa A.Q.length a.qc] 49)
   have c0 := hN.c0
   have c1 := hN.c1
   have c2 := hN.c2
   have hbe := hbw.trans (hbA.mono hbw.size)
   have hB5 := hB0.trans (hbA.mono hB0.size)
   have hB6 := hB.trans (hbA.mono hB.size)
   have hZe := hZw.below hbA hZw.lt
   cases FA
   ·
    have hR := HR3.out (fun h => by cases h.1)
    subst hR
    go_wp2_with fail
    refine (HFA.out _ hB5).mono ?_; rintro e w5 ⟨rfl, b5⟩
    have hbf := hbe.trans (b5.mono hbe.size)
    have hZf := hZe.below b5 hZe.lt
    have f0 := hZf.f 0
    have f1 := hZf.f 1
    have f2 := hZf.f 2
    have g0 := hZf.c0
    have g1 := hZf.c1
    have g2 := hZf.c2
    go_upto_region 6 with fail
    repeat go_step
    exact bodyPost_st3 rfl rfl rfl rfl (put3 hZf) rfl (JoP.fail hbf (by omega))
   ·
    go_wp2_with fail
    refine (HFA.out _ hB5).mono ?_; rintro e w5 ⟨rfl, b5⟩
    have hB7 := hB6.trans (b5.mono hB6.size)
    go_wp2_with fail
    exact ⟨⟨1, by omega, by go_num, fun _ => by trivial, fun h => by omega, hB7⟩, by simp [intOf]⟩
  ·
   have hN := SXB.new wr b B
   have hbA := (Below.refl _ wr).alloc (Nat.le_refl _) (.cells #[.slice b.ga B.G.length b.gc, .slice b.va B.V.length b.vc, .slice b.qa B.Q.length b.qc] 49)
   have c0 := hN.c0
   have c1 := hN.c1
   have c2 := hN.c2
   have hbe := hbw.trans (hbA.mono hbw.size)
   have hB5 := hB0.trans (hbA.mono hB0.size)
   have hB6 := hB.trans (hbA.mono hB.size)
   have hZe := hZw.below hbA hZw.lt
   have hA1 := hfa (by omega)
   subst hA1
   cases FB
   ·
    have hR := HR3.out (fun h => by cases h.2)
    subst hR
    go_wp2_with fail
    refine (HFB.out _ hB5).mono ?_; rintro e w5 ⟨rfl, b5⟩
    have hbf := hbe.trans (b5.mono hbe.size)
    have hZf := hZe.below b5 hZe.lt
    have f0 := hZf.f 0
    have f1 := hZf.f 1
    have f2 := hZf.f 2
    have g0 := hZf.c0
    have g1 := hZf.c1
    have g2 := hZf.c2
    go_upto_region 6 with fail
    repeat go_step
    exact bodyPost_st3 rfl rfl rfl rfl (put3 hZf) rfl (JoP.fail hbf (by omega))
   ·
    go_wp2_with fail
    refine (HFB.out _ hB5).mono ?_; rintro e w5 ⟨rfl, b5⟩
    have hB7 := hB6.trans (b5.mono hB6.size)
    go_wp2_with fail
    exact ⟨⟨2, by omega, by go_num, fun _ => by trivial, fun _ => by trivial, hB7⟩, by simp [intOf]⟩
  ·
   obtain rfl := hfa (by omega)
   obtain rfl := hfb (by omega)
   obtain ⟨w2, hw2⟩ : ∃ wo : World, wo = wr := ⟨_, rfl⟩
   rw [← hw2] at hB0 d0 d1 d2 d3 d4 d5 ⊢
   clear hw2 hB hbw hZw e0 e1 e2 e3 e4 e5 hbN hfa hfb HR3 x0 x1 x2 y0 y1 y2 hk
   have hB02 := hB0
   clear hB0 HFA HFB
   have hN := two_st (a := a) (b := b) (A := A) (B := B) (heap_alloc_new w2 (.cells #[.slice a.ga A.G.length a.gc, .slice a.va A.V.length a.vc, .slice a.qa A.Q.length a.qc, .slice b.ga B.G.length b.gc, .slice b.va B.V.length b.vc, .slice b.qa B.Q.length b.qc] 49))
   have hbN := (Below.refl _ w2).alloc (Nat.le_refl _) (.cells #[.slice a.ga A.G.length a.gc, .slice a.va A.V.length a.vc, .slice a.qa A.Q.length a.qc, .slice b.ga B.G.length b.gc, .slice b.va B.V.length b.vc, .slice b.qa B.Q.length b.qc] 49)
   go_wp2_with fail
   generalize hw1 : World.alloc w2 _ = w1 at hN hbN ⊢
   clear hw1
   obtain ⟨n0, n1, n2, n3, n4, n5⟩ := hN
   rename (∀ (a : Act) (w : World), _ → _) => hkn
   revert hkn
   repeat (rename (∀ (a : Act) (w : World), _ → _) => hkn; clear hkn)
   repeat (rename (Exit → Act → World → Prop) => hqn; clear hqn)
   intro hkn
   go_loopw [52] (fun v52 wr => ∃ k : Nat, k ≤ 2 ∧ v52 = .int .i64 (k : Int) ∧ (1 ≤ k → CA = 0) ∧ (2 ≤ k → CB = 0) ∧ Below w1.heap.size w1 wr) (fun v52 _ => 2 - (intOf v52).toNat)
   case atStart => exact ⟨0, by omega, rfl, fun h => by omega, fun h => by omega, Below.refl _ _⟩
   case round =>
    obtain ⟨k, hk, rfl, hfa, hfb, hB⟩ := hrel
    have hB3 := hbN.trans (hB.mono hbN.size)
    have hB0 := hB02.trans (hB3.mono hB02.size)
    have hbw := hb.trans (hB0.mono hb.size)
    have hZw := hZ.below hB0 hZ.lt
    have x0 := cells_keepL hB3 (Nat.le_refl _) _ _ d0
    have x1 := cells_keepL hB3 (Nat.le_refl _) _ _ d1
    have x2 := cells_keepL hB3 (Nat.le_refl _) _ _ d2
    have y0 := cells_keepL hB3 (Nat.le_refl _) _ _ d3
    have y1 := cells_keepL hB3 (Nat.le_refl _) _ _ d4
    have y2 := cells_keepL hB3 (Nat.le_refl _) _ _ d5
    have e0 := cells_keepL hB (Nat.le_refl _) _ _ n0
    have e1 := cells_keepL hB (Nat.le_refl _) _ _ n1
    have e2 := cells_keepL hB (Nat.le_refl _) _ _ n2
    have e3 := cells_keepL hB (Nat.le_refl _) _ _ n3
    have e4 := cells_keepL hB (Nat.le_refl _) _ _ n4
    have e5 := cells_keepL hB (Nat.le_refl _) _ _ n5
    clear n0 n1 n2 n3 n4 n5
    rcases (show k = 0 ∨ k = 1 ∨ k = 2 by omega) with rfl | rfl | rfl
    ·
     have hN := SXB.new wr a A
     have hbA := (Below.refl _ wr).alloc (Nat.le_refl _) (.cells #[.slice a.ga A.G.length a.gc, .slice a.va A.V.length a.vc, .slice a.qa A.Q.length a.qc] 49)
     have c0 := hN.c0
     have c1 := hN.c1
     have c2 := hN.c2
     have hbe := hbw.trans (hbA.mono hbw.size)
     have hB5 := hB0.trans (hbA.mono hB0.size)
     have hB6 := hB.trans (hbA.mono hB.size)
     have hZe := hZw.below hbA hZw.lt
     by_cases hc : CA = 0
     rotate_left
     ·
      have hR := HRA.out (by simp) hc
      subst hR
      have q2 : (CA != 0) = true := by rw [bne_iff_ne]; exact hc
      go_wp2_with fail
      refine (HCA.out _ hB5).mono ?_; rintro e w5 ⟨rfl, b5⟩
      have hbf := hbe.trans (b5.mono hbe.size)
      have hZf := hZe.below b5 hZe.lt
      have f0 := hZf.f 0
      have f1 := hZf.f 1
      have f2 := hZf.f 2
      have g0 := hZf.c0
      have g1 := hZf.c1
      have g2 := hZf.c2
      go_upto_region 13 with fail
      repeat go_step
      exact bodyPost_st3 rfl rfl rfl rfl (put3 hZf) rfl (JoP.fail hbf (by omega))
     ·
      subst hc
      go_wp2_with fail
      refine (HCA.out _ hB5).mono ?_; rintro e w5 ⟨rfl, b5⟩
      have hB7 := hB6.trans (b5.mono hB6.size)
      go_wp2_with fail
      exact ⟨⟨1, by omega, by go_num, fun _ => by trivial, fun h => by omega, hB7⟩, by simp [intOf]⟩
    ·
     have hN := SXB.new wr b B
     have hbA := (Below.refl _ wr).alloc (Nat.le_refl _) (.cells #[.slice b.ga B.G.length b.gc, .slice b.va B.V.length b.vc, .slice b.qa B.Q.length b.qc] 49)
     have c0 := hN.c0
     have c1 := hN.c1
     have c2 := hN.c2
     have hbe := hbw.trans (hbA.mono hbw.size)
     have hB5 := hB0.trans (hbA.mono hB0.size)
     have hB6 := hB.trans (hbA.mono hB.size)
     have hZe := hZw.below hbA hZw.lt
     have hA1 := hfa (by omega)
     subst hA1
     by_cases hc : CB = 0
     rotate_left
     ·
      have hR := HRB.out (by simp) (by trivial) hc
      subst hR
      have q2 : (CB != 0) = true := by rw [bne_iff_ne]; exact hc
      go_wp2_with fail
      refine (HCB.out _ hB5).mono ?_; rintro e w5 ⟨rfl, b5⟩
      have hbf := hbe.trans (b5.mono hbe.size)
      have hZf := hZe.below b5 hZe.lt
      have f0 := hZf.f 0
      have f1 := hZf.f 1
      have f2 := hZf.f 2
      have g0 := hZf.c0
      have g1 := hZf.c1
      have g2 := hZf.c2
      go_upto_region 13 with fail
      repeat go_step
      exact bodyPost_st3 rfl rfl rfl rfl (put3 hZf) rfl (JoP.fail hbf (by omega))
     ·
      subst hc
      go_wp2_with fail
      refine (HCB.out _ hB5).mono ?_; rintro e w5 ⟨rfl, b5⟩
      have hB7 := hB6.trans (b5.mono hB6.size)
      go_wp2_with fail
      exact ⟨⟨2, by omega, by go_num, fun _ => by trivial, fun _ => by trivial, hB7⟩, by simp [intOf]⟩
    ·
     obtain rfl := hfa (by omega)
     obtain rfl := hfb (by omega)
     obtain ⟨fA, fB, kA, kB, ffA0, ffB0⟩ := HFW.out (by simp) (by trivial) (by trivial)
     replace HR2 := Lib.hid (HR2.out (by simp) (by trivial) (by trivial))
     replace HRP := Lib.hid (HRP.out (by simp) (by trivial) (by trivial))
     obtain ⟨w3, hw3⟩ : ∃ wo : World, wo = wr := ⟨_, rfl⟩
     rw [← hw3] at hB0 hbw hZw x0 x1 x2 y0 y1 y2 ⊢
     have HG := Lib.hid (HAA.out.g.keep (cells_keepL hB0 (Nat.le_refl _)))
     have HV := Lib.hid (HAA.out.v.keepL (cells_keepL hB0 (Nat.le_refl _)))
     have HQ := Lib.hid (HAA.out.q.keep (cells_keepL hB0 (Nat.le_refl _)))
     have HG' := Lib.hid (HBB.out.g.keep (cells_keepL hB0 (Nat.le_refl _)))
     have HV' := Lib.hid (HBB.out.v.keepL (cells_keepL hB0 (Nat.le_refl _)))
     have HQ' := Lib.hid (HBB.out.q.keep (cells_keepL hB0 (Nat.le_refl _)))
     have HP3 := Lib.hid (HPP.out.keep (cells_keepL hB0 (Nat.le_refl _)))
     clear hw3 hB hB3 e0 e1 e2 e3 e4 e5 hbN hfa hfb HRA HRB HFW HCA HAA HBB HPP d0 d1 d2 d3 d4 d5 hk hb hB0 hB02 hZ hX1 hY1
     have hb3 := hbw
     have hZ3 := hZw
     clear hbw hZw
     obtain ⟨SA, hSA⟩ : ∃ S, A.pl = S := ⟨_, rfl⟩
     obtain ⟨SB, hSB⟩ : ∃ S, B.pl = S := ⟨_, rfl⟩
     have pA : SA.G = A.G ∧ SA.V = A.V ∧ SA.Q = A.Q.map eqp := by rw [← hSA]; exact ⟨rfl, rfl, rfl⟩
     have pB : SB.G = B.G ∧ SB.V = B.V ∧ SB.Q = B.Q.map eqp := by rw [← hSB]; exact ⟨rfl, rfl, rfl⟩
     rw [hSA] at fA kA ffA0 HRP
     rw [hSB] at fB kB ffB0 HRP
     have ffA : formB SA = true := ffA0
     have ffB : formB SB = true := ffB0
     clear ffA0 ffB0
     clear HCB
     have fl : A.G.length ≤ 8 ∧ A.V.length ≤ 64 ∧ A.Q.length ≤ 64 ∧ B.G.length ≤ 8 ∧ B.V.length ≤ 64 ∧ B.Q.length ≤ 64 := by
      have a1 := fA.g; have a2 := fA.v; have a3 := fA.q; have b1 := fB.g; have b2 := fB.v; have b3 := fB.q
      rw [pA.1] at a1; rw [pA.2.1] at a2; rw [pA.2.2, List.length_map] at a3; rw [pB.1] at b1; rw [pB.2.1] at b2; rw [pB.2.2, List.length_map] at b3
      exact ⟨a1, a2, a3, b1, b2, b3⟩
     have HFQ : Hid (∀ q ∈ A.Q, q.2.2.2.2.length ≤ 64 ∧ IntKind.i64.wrap (q.1 + 0) = q.1 + 0) := fun q hq => by
      have h1 := fA.t (eqp q) (by rw [pA.2.2]; exact List.mem_map_of_mem hq)
      obtain ⟨g1, g2, _⟩ := form_q ffA (q := eqp q) (by rw [pA.2.2]; exact List.mem_map_of_mem hq)
      have g3 := fA.g
      have e1 : (eqp q).1 = q.1 := rfl
      rw [e1] at g1 g2
      exact ⟨h1, by rw [IntKind.wrap_i64]; omega⟩
     have HFQ' : Hid (∀ q ∈ B.Q, q.2.2.2.2.length ≤ 64 ∧ IntKind.i64.wrap (q.1 + (A.G.length : Int)) = q.1 + (A.G.length : Int) ∧ ∀ t ∈ q.2.2.2.2, ∃ h : Nat, t.2.1 = (h : Int) ∧ h < B.V.length) := fun q hq => by
      have h1 := fB.t (eqp q) (by rw [pB.2.2]; exact List.mem_map_of_mem hq)
      obtain ⟨g1, g2, _, g4⟩ := form_q ffB (q := eqp q) (by rw [pB.2.2]; exact List.mem_map_of_mem hq)
      have g3 := fB.g
      have g5 := fA.g
      rw [pA.1] at g5
      rw [pB.2.1] at g4
      have e1 : (eqp q).1 = q.1 := rfl
      rw [e1] at g1 g2
      refine ⟨h1, by rw [IntKind.wrap_i64]; omega, fun t ht => ?_⟩
      obtain ⟨k1, k2, _⟩ := g4 t ht
      exact ⟨t.2.1.toNat, by omega, k2⟩
     have HVN : Hid (∀ x, x ∈ A.V ∨ x ∈ B.V → IsN x (Num.nv x)) := fun x hx => by
      have f1 := ffA
      have f2 := ffB
      unfold formB at f1 f2
      rw [Bool.and_eq_true, Bool.and_eq_true] at f1 f2
      rw [pA.2.1] at f1
      rw [pB.2.1] at f2
      rcases hx with h | h
      ·
       exact isN_of_valid (List.all_eq_true.1 f1.2.1 x h)
      ·
       exact isN_of_valid (List.all_eq_true.1 f2.2.1 x h)
     have HF := Lib.hid (And.intro fA (And.intro fB (And.intro kA (And.intro kB (And.intro ffA ffB)))))
     have HPA := Lib.hid pA
     have HPB := Lib.hid pB
     clear fA fB kA kB ffA ffB pA pB hSA hSB
     obtain ⟨l1, l2, l3, l4, l5, l6⟩ := fl
     obtain ⟨ga, gc, va, vc, qa, qc⟩ := a
     obtain ⟨ga', gc', va', vc', qa', qc'⟩ := b
     obtain ⟨G, V, Q⟩ := A
     obtain ⟨G', V', Q'⟩ := B
     simp only at x0 x1 x2 y0 y1 y2 l1 l2 l3 l4 l5 l6 HG HV HQ HG' HV' HQ' HR2 HFQ HFQ' HVN HPA HPB
     obtain ⟨ng, hng⟩ : ∃ n, G.length = n := ⟨_, rfl⟩
     obtain ⟨na, hna⟩ : ∃ n, V.length = n := ⟨_, rfl⟩
     obtain ⟨nq, hnq⟩ : ∃ n, Q.length = n := ⟨_, rfl⟩
     obtain ⟨mg, hmg⟩ : ∃ n, G'.length = n := ⟨_, rfl⟩
     obtain ⟨m, hm⟩ : ∃ n, V'.length = n := ⟨_, rfl⟩
     obtain ⟨mq, hmq⟩ : ∃ n, Q'.length = n := ⟨_, rfl⟩
     rw [hng] at x0 l1 HFQ'
     rw [hna] at x1 l2 HR2
     rw [hnq] at x2 l3
     rw [hmg] at y0 l4
     rw [hm] at y1 l5 HFQ' HR2
     rw [hmq] at y2 l6
     have HRP2 : Hid (P.all (prOk na m) = true → R = plJ SA SB P) := by rw [← hna, ← hm]; exact HRP
     clear HRP
     obtain ⟨PB, hPB⟩ : ∃ b, P.all (prOk na m) = b := ⟨_, rfl⟩
     have HPT : Hid (PB = true → P.all (prOk na m) = true) := fun h => hPB.trans h
     have H4 : Hid ((P.drop 0).all (prOk na m) = PB) := hPB
     rw [hPB] at HR2 HRP2
     have HNG := Lib.hid hng
     have HNA := Lib.hid hna
     have HNQ := Lib.hid hnq
     have HMG := Lib.hid hmg
     have HM := Lib.hid hm
     have HMQ := Lib.hid hmq
     obtain ⟨i1, hy, hy0, hy1, hy2⟩ := info_parts info_int
     clear hng hna hnq hmg hm hmq hPB
     go_wp2_with (at_make; refine wpList_make_arr _ rfl _ _ _ rfl 3 i1 .i64 8 Tryz.underlying71 hy hy0 hy1 hy2 _ _ _ _ m rfl rfl ?_ ?_ ?_ ?_ ?_ <;> first | (intro w4 ha hb4 hsz) | omega | (unfold maxLen; omega))
     clear hy hy0 hy1 hy2
     rename (∀ (a : Act) (w : World), _ → _) => hkn
     revert hkn
     repeat (rename (∀ (a : Act) (w : World), _ → _) => hkn; clear hkn)
     repeat (rename (Exit → Act → World → Prop) => hqn; clear hqn)
     intro hkn
     go_loopw [69] (fun v69 wr => ∃ k : Nat, k ≤ m ∧ v69 = .int .i64 (k : Int) ∧ Arr wr w3.heap.size 3 .i64 m (fun i => if i < k then -1 else 0) ∧ Below w3.heap.size w3 wr) (fun v69 _ => m - (intOf v69).toNat)
     case atStart => exact ⟨0, by omega, rfl, ha.congr (fun i _ => by simp), hb4⟩
     case round =>
      clear ha hb4 hsz
      obtain ⟨k, hk, rfl, hAr, hB⟩ := hrel
      by_cases hlt : k < m
      ·
       have hc0 : wr.cell? ⟨w3.heap.size, k, none⟩ = some (.int .i64 0) := by have := hAr.cell hlt; simpa using this
       have hf0 := hAr.free k
       have hAr2 := (hAr.set k (-1)).congr (g := fun i => if i < k + 1 then -1 else 0) (fun i hi => by
        unfold upd
        by_cases e : i = k
        ·
         subst e; simp
        ·
         by_cases e2 : i < k
         ·
          have e3 : i < k + 1 := by omega
          simp [e, e2, e3]
         ·
          have e3 : ¬ i < k + 1 := by omega
          simp [e, e2, e3])
       have hBs := hB.setCell (p := ⟨w3.heap.size, k, none⟩) (Nat.le_refl _) (.int .i64 (-1))
       go_wp2_with fail
       exact ⟨⟨k + 1, by omega, by go_num, hAr2, hBs⟩, by simp [intOf]; omega⟩
      ·
       obtain rfl : m = k := by omega
       have hAJ : Arr wr w3.heap.size 3 .i64 m (fun i => (List.replicate m (-1)).getD i 0) := hAr.congr (fun i hi => by simp [hi, List.getD_eq_getElem?_getD])
       clear hAr
       go_wp2_with fail
       rename (∀ (a : Act) (w : World), _ → _) => hkn
       revert hkn
       repeat (rename (∀ (a : Act) (w : World), _ → _) => hkn; clear hkn)
       repeat (rename (Exit → Act → World → Prop) => hqn; clear hqn)
       intro hkn
       go_loopw [78] (fun v78 wr => ∃ k : Nat, k ≤ np ∧ v78 = .int .i64 (k : Int) ∧ Hid ((P.drop k).all (prOk na m) = PB) ∧ Arr wr w3.heap.size 3 .i64 m (fun i => (List.replicate m (-1)).getD i 0) ∧ Below w3.heap.size w3 wr) (fun v78 _ => np - (intOf v78).toNat)
       case atStart => exact ⟨0, by omega, rfl, H4, hAJ, hB⟩
       case round =>
        clear H4 hAJ hB
        obtain ⟨k, hk, rfl, hH, hAJ, hB⟩ := hrel
        by_cases hlt : k < np
        ·
         have hbw := hb3.trans (hB.mono hb3.size)
         have hZw := hZ3.below hB hZ3.lt
         have e1 := cells_keepL hB (Nat.le_refl _) _ _ x1
         have e2 := cells_keepL hB (Nat.le_refl _) _ _ y1
         have hkP : k < P.length := by rw [HNP.out]; exact hlt
         obtain ⟨b, off, rfl, p0, p1⟩ := (HP3.out.keep (cells_keepL hB (Nat.le_refl _))) k hkP
         have hw := hH.out
         rw [List.drop_eq_getElem_cons hkP, List.all_cons] at hw
         generalize P[k] = x at p0 p1 hw
         obtain ⟨u, v⟩ := x
         simp only [prOk] at p0 p1 hw
         have hbA := (Below.refl _ wr).alloc (Nat.le_refl _) (.cells #[.int .i64 u, .int .i64 v] 82)
         have hN := heap_alloc_new wr (.cells #[.int .i64 u, .int .i64 v] 82)
         have n0 : (wr.alloc (.cells #[.int .i64 u, .int .i64 v] 82)).cell? ⟨wr.heap.size, 0, none⟩ = some (.int .i64 u) := by rw [Lib.cell_of_heap hN]; rfl
         have n1 : (wr.alloc (.cells #[.int .i64 u, .int .i64 v] 82)).cell? ⟨wr.heap.size, 1, none⟩ = some (.int .i64 v) := by rw [Lib.cell_of_heap hN]; rfl
         have c1 := cells_keepL hbA (Nat.le_refl _) _ _ e1
         have c2 := cells_keepL hbA (Nat.le_refl _) _ _ e2
         have hbe := hbw.trans (hbA.mono hbw.size)
         have hZe := hZw.below hbA hZw.lt
         have hB2 := hB.trans (hbA.mono hB.size)
         have hA2 := hAJ.alloc (.cells #[.int .i64 u, .int .i64 v] 82)
         clear hkP hH hN hB hAJ hbw hZw
         go_upto_region 24 with fail
         generalize hw9 : World.alloc wr _ = w9 at hbA n0 n1 c1 c2 hbe hZe hB2 hA2 ⊢
         clear hw9
         by_cases t0 : u < 0
         ·
          obtain rfl : PB = false := by rw [← hw, decide_eq_false (show ¬ 0 ≤ u by omega)]; simp
          have hR := HR2.out rfl
          subst hR
          have q0 : decide (u < 0) = true := decide_eq_true t0
          clear hw
          have f0 := hZe.f 0
          have f1 := hZe.f 1
          have f2 := hZe.f 2
          have g0 := hZe.c0
          have g1 := hZe.c1
          have g2 := hZe.c2
          go_upto_region 25 with fail
          repeat go_step
          exact bodyPost_st3 rfl rfl rfl rfl (put3 hZe) rfl (JoP.fail hbe (by omega))
         have q0 : decide (u < 0) = false := decide_eq_false t0
         by_cases t1 : (na : Int) ≤ u
         ·
          obtain rfl : PB = false := by rw [← hw, decide_eq_false (show ¬ u < (na : Int) by omega)]; simp
          have hR := HR2.out rfl
          subst hR
          have q1 : decide ((na : Int) ≤ u) = true := decide_eq_true t1
          clear hw
          have f0 := hZe.f 0
          have f1 := hZe.f 1
          have f2 := hZe.f 2
          have g0 := hZe.c0
          have g1 := hZe.c1
          have g2 := hZe.c2
          go_upto_region 25 with fail
          repeat go_step
          exact bodyPost_st3 rfl rfl rfl rfl (put3 hZe) rfl (JoP.fail hbe (by omega))
         have q1 : decide ((na : Int) ≤ u) = false := decide_eq_false t1
         by_cases t2 : v < 0
         ·
          obtain rfl : PB = false := by rw [← hw, decide_eq_false (show ¬ 0 ≤ v by omega)]; simp
          have hR := HR2.out rfl
          subst hR
          have q2 : decide (v < 0) = true := decide_eq_true t2
          clear hw
          have f0 := hZe.f 0
          have f1 := hZe.f 1
          have f2 := hZe.f 2
          have g0 := hZe.c0
          have g1 := hZe.c1
          have g2 := hZe.c2
          go_upto_region 25 with fail
          repeat go_step
          exact bodyPost_st3 rfl rfl rfl rfl (put3 hZe) rfl (JoP.fail hbe (by omega))
         have q2 : decide (v < 0) = false := decide_eq_false t2
         by_cases t3 : (m : Int) ≤ v
         ·
          obtain rfl : PB = false := by rw [← hw, decide_eq_false (show ¬ v < (m : Int) by omega)]; simp
          have hR := HR2.out rfl
          subst hR
          have q3 : decide ((m : Int) ≤ v) = true := decide_eq_true t3
          clear hw
          have f0 := hZe.f 0
          have f1 := hZe.f 1
          have f2 := hZe.f 2
          have g0 := hZe.c0
          have g1 := hZe.c1
          have g2 := hZe.c2
          go_upto_region 25 with fail
          repeat go_step
          exact bodyPost_st3 rfl rfl rfl rfl (put3 hZe) rfl (JoP.fail hbe (by omega))
         have q3 : decide ((m : Int) ≤ v) = false := decide_eq_false t3
         rw [decide_eq_true (show 0 ≤ u by omega), decide_eq_true (show u < (na : Int) by omega), decide_eq_true (show 0 ≤ v by omega), decide_eq_true (show v < (m : Int) by omega), Bool.true_and, Bool.true_and, Bool.true_and, Bool.true_and] at hw
         have HW := Lib.hid hw
         clear hw
         go_wp2_with fail
         exact ⟨⟨k + 1, by omega, by go_num, HW, hA2, hB2⟩, by simp [intOf]; omega⟩
        ·
         obtain rfl : np = k := by omega
         have hw := hH.out
         rw [List.drop_of_length_le (by rw [HNP.out]; omega)] at hw
         obtain rfl : true = PB := hw
         have hR := HRP2.out rfl
         have HPALL := Lib.hid (HPT.out rfl)
         obtain ⟨TJ, hTJ⟩ : ∃ t, twJ P (List.replicate m (-1)) = t := ⟨_, rfl⟩
         have hmB : SB.V.length = m := by rw [HPB.out.2.1, HM.out]
         have HT8 : Hid (TJ = none → R = noJ 8) := fun h => by rw [hR, plJ_none (by rw [hmB, hTJ]; exact h)]
         have HTS : Hid (∀ J, TJ = some J → R = vrJ SA SB P J ∧ J.length = m ∧ JOk na J) := fun J h => by
          obtain ⟨g1, g2⟩ := twJ_ok P (List.replicate m (-1)) J HPALL.out (by simp) (JOk.rep na m) (hTJ.trans h)
          exact ⟨by rw [hR, plJ_some (by rw [hmB, hTJ]; exact h)], g1, g2⟩
         have H5 : Hid (twJ (P.drop 0) (List.replicate m (-1)) = TJ) := hTJ
         clear hH hR hTJ hmB HR2 HRP2 HPT
         go_wp2_with fail
         rename (∀ (a : Act) (w : World), _ → _) => hkn
         revert hkn
         repeat (rename (∀ (a : Act) (w : World), _ → _) => hkn; clear hkn)
         repeat (rename (Exit → Act → World → Prop) => hqn; clear hqn)
         intro hkn
         go_loopw [110] (fun v110 wr => ∃ (k : Nat) (J : List Int), k ≤ np ∧ v110 = .int .i64 (k : Int) ∧ Hid (twJ (P.drop k) J = TJ) ∧ J.length = m ∧ Arr wr w3.heap.size 3 .i64 m (fun i => J.getD i 0) ∧ Below w3.heap.size w3 wr) (fun v110 _ => np - (intOf v110).toNat)
         case atStart => exact ⟨0, _, by omega, rfl, H5, by simp, hAJ, hB⟩
         case round =>
          clear H5 hAJ hB
          obtain ⟨k, J, hk, rfl, hH, hJl, hAJ, hB⟩ := hrel
          by_cases hlt : k < np
          ·
           have hbw := hb3.trans (hB.mono hb3.size)
           have hZw := hZ3.below hB hZ3.lt
           have hkP : k < P.length := by rw [HNP.out]; exact hlt
           obtain ⟨b, off, rfl, p0, p1⟩ := (HP3.out.keep (cells_keepL hB (Nat.le_refl _))) k hkP
           have hpk := prOk_iff.1 (take_all_of HPALL.out hkP)
           have hw := hH.out
           rw [List.drop_eq_getElem_cons hkP, twJ] at hw
           generalize P[k] = x at p0 p1 hw hpk
           obtain ⟨u, v⟩ := x
           simp only at p0 p1 hw hpk
           obtain ⟨z1, z2, z3, z4⟩ := hpk
           obtain ⟨i, rfl⟩ := Int.eq_ofNat_of_zero_le z1
           obtain ⟨j, rfl⟩ := Int.eq_ofNat_of_zero_le z3
           have z5 : i < na := by omega
           have z6 : j < m := by omega
           rw [Int.toNat_natCast] at hw
           have hbA := (Below.refl _ wr).alloc (Nat.le_refl _) (.cells #[.int .i64 (i : Int), .int .i64 (j : Int)] 82)
           have hN := heap_alloc_new wr (.cells #[.int .i64 (i : Int), .int .i64 (j : Int)] 82)
           have n0 : (wr.alloc (.cells #[.int .i64 (i : Int), .int .i64 (j : Int)] 82)).cell? ⟨wr.heap.size, 0, none⟩ = some (.int .i64 (i : Int)) := by rw [Lib.cell_of_heap hN]; rfl
           have n1 : (wr.alloc (.cells #[.int .i64 (i : Int), .int .i64 (j : Int)] 82)).cell? ⟨wr.heap.size, 1, none⟩ = some (.int .i64 (j : Int)) := by rw [Lib.cell_of_heap hN]; rfl
           have hbe := hbw.trans (hbA.mono hbw.size)
           have hZe := hZw.below hbA hZw.lt
           have hB2 := hB.trans (hbA.mono hB.size)
           have hA2 := hAJ.alloc (.cells #[.int .i64 (i : Int), .int .i64 (j : Int)] 82)
           go_upto_region 30 with fail
           generalize hw9 : World.alloc wr _ = w9 at hbA n0 n1 hbe hZe hB2 hA2 ⊢
           clear hw9
           have hc0 := hA2.cell z6
           have hA3 := (hA2.set j (i : Int)).congr (g := fun s => (J.set j (i : Int)).getD s 0) (fun s _ => by rw [getD_set_int _ _ _ _ (by rw [hJl]; exact z6)]; unfold upd; simp only [eq_comm])
           have hf0 := hA2.free j
           have hB3 := hB2.setCell (p := ⟨w3.heap.size, j, none⟩) (Nat.le_refl _) (.int .i64 (i : Int))
           generalize J.getD j 0 = z at hc0 hw
           clear hkP hH hN hB hAJ hbw hZw z1 z2 z3 z4
           by_cases tz : 0 ≤ z
           ·
            rw [if_pos tz] at hw
            have hR := HT8.out hw.symm
            subst hR
            have q1 : decide (0 ≤ z) = true := decide_eq_true tz
            clear hw
            have f0 := hZe.f 0
            have f1 := hZe.f 1
            have f2 := hZe.f 2
            have g0 := hZe.c0
            have g1 := hZe.c1
            have g2 := hZe.c2
            go_upto_region 31 with fail
            repeat go_step
            exact bodyPost_st3 rfl rfl rfl rfl (put3 hZe) rfl (JoP.fail hbe (by omega))
           ·
            rw [if_neg tz] at hw
            have q1 : decide (0 ≤ z) = false := decide_eq_false tz
            have HW := Lib.hid hw
            clear hw
            go_wp2_with fail
            exact ⟨⟨k + 1, _, by omega, by go_num, HW, by rw [List.length_set]; exact hJl, hA3, hB3⟩, by simp [intOf]; omega⟩
          ·
           obtain rfl : np = k := by omega
           have hw := hH.out
           rw [List.drop_of_length_le (by rw [HNP.out]; omega)] at hw
           obtain ⟨hR, _, hJo⟩ := HTS.out J hw.symm
           clear hw hH HTS HT8
           have d0 := cells_keepL hB (Nat.le_refl _) _ _ x0
           have d1 := cells_keepL hB (Nat.le_refl _) _ _ x1
           have d3 := cells_keepL hB (Nat.le_refl _) _ _ y0
           have HGk := Lib.hid (HG.out.keep (cells_keepL hB (Nat.le_refl _)))
           have HGk' := Lib.hid (HG'.out.keep (cells_keepL hB (Nat.le_refl _)))
           have HVk := Lib.hid (HV.out.keepL (cells_keepL hB (Nat.le_refl _)))
           obtain ⟨w6, hw6⟩ : ∃ wo : World, wo = wr := ⟨_, rfl⟩
           rw [← hw6] at hB hAJ d0 d1 d3 HGk HGk' HVk ⊢
           clear hw6
           go_wp2_with fail
           go_cut [21] from 128 to 137 (fun v21 wc => ∃ (p : Nat) (gv vv : Value), v21 = .pointer (some ⟨p, 0, none⟩) ∧ JS w.heap.size w3.heap.size wc p gv vv (.slice none 0 0) gv vv (.slice none 0 0) (G ++ G') V [] w3.heap.size J ∧ Below w3.heap.size w3 wc)
           case first =>
            have HMK := Lib.hid (fun w' (hw : Below w6.heap.size w6 w') => (⟨cells_keepL hw (Nat.le_refl _) _ _ d0, cells_keepL hw (Nat.le_refl _) _ _ d1, cells_keepL hw (Nat.le_refl _) _ _ d3⟩ : w'.cell? ⟨w.heap.size, 0, none⟩ = some (.slice ga ng gc) ∧ w'.cell? ⟨w.heap.size, 1, none⟩ = some (.slice va na vc) ∧ w'.cell? ⟨w.heap.size + 1, 0, none⟩ = some (.slice ga' mg gc')))
            have hi6 := hAJ.lt
            have hs6 := hB.size
            refine wp_region_held_drew (S := (fun w' => w'.cell? ⟨w.heap.size, 0, none⟩ = some (.slice ga ng gc) ∧ w'.cell? ⟨w.heap.size, 1, none⟩ = some (.slice va na vc) ∧ w'.cell? ⟨w.heap.size + 1, 0, none⟩ = some (.slice ga' mg gc'))) (by kernel_rfl) ⟨d0, d1, d3⟩ (fun hS0 => ?_)
            refine wpAnyH_take (i := 0) (oi := { dst := some 128, op := _, type := _, pos := _, after := _, guard := _ }) (v := .pointer (some (⟨w.heap.size, 0, none⟩ : Addr))) rfl (by kernel_rfl) (by kernel_rfl) (by kernel_rfl) (fun _ _ _ h => h) (Or.inl ⟨by rfl, fun w' hSw => (by (try dsimp only at hSw); go_simp)⟩) (by assumption) ?_
            try simp only [Act.put, List.setIfInBounds_toArray, List.set_cons_zero, List.set_cons_succ]
            refine wpAnyH_take (i := 1) (oi := { dst := some 129, op := _, type := _, pos := _, after := _, guard := _ }) (v := .slice ga ng gc) rfl (by kernel_rfl) (by kernel_rfl) (by kernel_rfl) (fun _ _ _ h => h) (Or.inl ⟨by rfl, fun w' hSw => (by (try dsimp only at hSw); obtain ⟨g0, g1, g2⟩ := hSw; go_simp)⟩) (by assumption) ?_
            try simp only [Act.put, List.setIfInBounds_toArray, List.set_cons_zero, List.set_cons_succ]
            refine wpAnyH_take (i := 2) (oi := { dst := some 130, op := _, type := _, pos := _, after := _, guard := _ }) (v := .pointer (some (⟨w.heap.size + 1, 0, none⟩ : Addr))) rfl (by kernel_rfl) (by kernel_rfl) (by kernel_rfl) (fun _ _ _ h => h) (Or.inl ⟨by rfl, fun w' hSw => (by (try dsimp only at hSw); go_simp)⟩) (by assumption) ?_
            try simp only [Act.put, List.setIfInBounds_toArray, List.set_cons_zero, List.set_cons_succ]
            refine wpAnyH_take (i := 3) (oi := { dst := some 131, op := _, type := _, pos := _, after := _, guard := _ }) (v := .slice ga' mg gc') rfl (by kernel_rfl) (by kernel_rfl) (by kernel_rfl) (fun _ _ _ h => h) (Or.inl ⟨by rfl, fun w' hSw => (by (try dsimp only at hSw); obtain ⟨g0, g1, g2⟩ := hSw; go_simp)⟩) (by assumption) ?_
            try simp only [Act.put, List.setIfInBounds_toArray, List.set_cons_zero, List.set_cons_succ]
            refine wpAnyH_take (i := 6) (oi := { dst := some 134, op := _, type := _, pos := _, after := _, guard := _ }) (v := .pointer (some (⟨w.heap.size, 1, none⟩ : Addr))) rfl (by kernel_rfl) (by kernel_rfl) (by kernel_rfl) (fun _ _ _ h => h) (Or.inl ⟨by rfl, fun w' hSw => (by (try dsimp only at hSw); go_simp)⟩) (by assumption) ?_
            try simp only [Act.put, List.setIfInBounds_toArray, List.set_cons_zero, List.set_cons_succ]
            refine wpAnyH_take (i := 7) (oi := { dst := some 135, op := _, type := _, pos := _, after := _, guard := _ }) (v := .slice va na vc) rfl (by kernel_rfl) (by kernel_rfl) (by kernel_rfl) (fun _ _ _ h => h) (Or.inl ⟨by rfl, fun w' hSw => (by (try dsimp only at hSw); obtain ⟨g0, g1, g2⟩ := hSw; go_simp)⟩) (by assumption) ?_
            try simp only [Act.put, List.setIfInBounds_toArray, List.set_cons_zero, List.set_cons_succ]
            have hq0 : Below w6.heap.size w6 w6.drew := (Below.refl _ w6).drew
            clear d0 d1 d3
            generalize w6.drew = W0 at hS0 hq0 ⊢
            refine wpAnyH_ready (rs := [4, 10]) (by kernel_rfl) (by simp) ?_
            refine AllReadyH.cons rfl (fun K hK => ?_) (AllReadyH.cons rfl (fun K hK => ?_) AllReadyH.nil)
            ·
             rw [if_pos (by rfl)]
             go_simp
             have bn := (Below.refl _ W0).alloc (Nat.le_refl _) (.cells #[.slice ga ng gc, .slice ga' mg gc'] 38)
             have hr10 : (W0.alloc (.cells #[.slice ga ng gc, .slice ga' mg gc'] 38)).cell? ⟨W0.heap.size, 0, none⟩ = some (.slice ga ng gc) := by rw [Lib.cell_of_heap (heap_alloc_new W0 _)]; rfl
             have hr11 : (W0.alloc (.cells #[.slice ga ng gc, .slice ga' mg gc'] 38)).cell? ⟨W0.heap.size, 1, none⟩ = some (.slice ga' mg gc') := by rw [Lib.cell_of_heap (heap_alloc_new W0 _)]; rfl
             have hq1 := hq0.trans (bn.mono hq0.size)
             refine hK.out _ _ (HMK.out _ hq1) (fun hT => ?_)
             clear hK bn hT
             try simp only [Act.put, List.setIfInBounds_toArray, List.set_cons_zero, List.set_cons_succ]
             generalize W0.heap.size = r at hr10 hr11 ⊢
             generalize hw : World.alloc W0 _ = W1 at hq1 hr10 hr11 ⊢
             clear hw
             refine wpAnyH_ready (rs := [5, 10]) (by kernel_rfl) (by simp) ?_
             refine AllReadyH.cons rfl (fun K hK => ?_) (AllReadyH.cons rfl (fun K hK => ?_) AllReadyH.nil)
             ·
              rw [if_pos (by rfl)]
              go_simp
              go_at_call 42
              refine (concatG_any r ga ga' ng mg gc gc' G G' _ hr10 hr11 (HGk.out.keep (cells_keepL hq1 (Nat.le_refl _))) (HGk'.out.keep (cells_keepL hq1 (Nat.le_refl _))) HNG.out HMG.out (by omega) (by omega)).mono ?_; rintro e W2 ⟨gv, rfl, hg0, bn⟩
              obtain ⟨go, gcx, rfl⟩ := own_slice hg0
              have hg2 := own_monoJ hg0 (show w3.heap.size ≤ _ from Nat.le_trans hs6 hq1.size)
              clear hg0
              have hq2 := hq1.trans (bn.mono hq1.size)
              refine hK.out _ _ (HMK.out _ hq2) (fun hT => ?_)
              clear hK bn hT
              try simp only [Act.put, List.setIfInBounds_toArray, List.set_cons_zero, List.set_cons_succ]
              refine wpAnyH_ready (rs := [8, 10]) (by kernel_rfl) (by simp) ?_
              refine AllReadyH.cons rfl (fun K hK => ?_) (AllReadyH.cons rfl (fun K hK => ?_) AllReadyH.nil)
              ·
               rw [if_pos (by rfl)]
               go_simp
               go_at_call 43
               refine (cloneV_any va na vc V _ (HVk.out.keepL (cells_keepL hq2 (Nat.le_refl _))) HNA.out (by omega)).mono ?_; rintro e W3 ⟨vv, rfl, hv0, bn⟩
               obtain ⟨vo, vcx, rfl⟩ := own_slice hv0
               have hv3 := own_monoJ hv0 (show w3.heap.size ≤ _ from Nat.le_trans hs6 hq2.size)
               clear hv0
               have hg3 := own_keepL bn hg2
               have hq3 := hq2.trans (bn.mono hq2.size)
               refine hK.out _ _ (HMK.out _ hq3) (fun hT => ?_)
               clear hK bn hT
               try simp only [Act.put, List.setIfInBounds_toArray, List.set_cons_zero, List.set_cons_succ]
               have hT := HMK.out _ hq3
               refine wpAnyH_take (i := 9) (oi := { dst := some 137, op := _, type := _, pos := _, after := _, guard := _ }) (v := .agg #[.slice go (ng + mg) gcx, .slice vo na vcx, .slice none 0 0]) rfl (by kernel_rfl) (by kernel_rfl) (by kernel_rfl) (fun _ _ _ h => h) (Or.inl ⟨by rfl, fun w' hSw => (by (try dsimp only at hSw); go_simp)⟩) (by assumption) ?_
               try simp only [Act.put, List.setIfInBounds_toArray, List.set_cons_zero, List.set_cons_succ]
               clear hT
               refine wpAnyH_ready (rs := [10]) (by kernel_rfl) (by simp) ?_
               refine AllReadyH.cons rfl (fun K hK => ?_) AllReadyH.nil
               rw [if_pos (by rfl)]
               go_simp
               have bn := (Below.refl _ W3).alloc (Nat.le_refl _) (.cells #[.slice none 0 0, .slice none 0 0, .slice none 0 0] 49)
               have ho4 := OB.new W3 (.slice none 0 0) (.slice none 0 0) (.slice none 0 0)
               have hpp : w3.heap.size ≤ W3.heap.size := Nat.le_trans hs6 hq3.size
               have hp6 : w6.heap.size ≤ W3.heap.size := hq3.size
               have hg4 := own_keepL bn hg3
               have hv4 := own_keepL bn hv3
               have hq4 := hq3.trans (bn.mono hq3.size)
               refine hK.out _ _ (HMK.out _ hq4) (fun hT => ?_)
               clear hK bn hT
               try simp only [Act.put, List.setIfInBounds_toArray, List.set_cons_zero, List.set_cons_succ]
               generalize W3.heap.size = p at ho4 hpp hp6 ⊢
               generalize hw : World.alloc W3 _ = W4 at hq4 hg4 hv4 ho4 ⊢
               clear hw
               have hJS : JS w.heap.size w3.heap.size W4 p (.slice none 0 0) (.slice none 0 0) (.slice none 0 0) (.slice go (ng + mg) gcx) (.slice vo na vcx) (.slice none 0 0) (G ++ G') V [] w3.heap.size J := ⟨hb3.size, hpp, Nat.le_refl _, ho4, by rw [List.length_append, HNG.out, HMG.out]; exact hg4, by rw [HNA.out]; exact hv4, World.ownsRow_nil _ _ _ _, fun x hx => (by cases hx), by rw [hJl]; exact (hq4.block _ hi6).trans hAJ⟩
               have hBw := hB.trans (hq4.mono hs6)
               have hx0 := hJS.o.c0
               have hx1 := hJS.o.c1
               have hx2 := hJS.o.c2
               have hf0 := hJS.o.f 0
               have hf1 := hJS.o.f 1
               have hf2 := hJS.o.f 2
               refine wpAnyH_ready (rs := [11]) (by kernel_rfl) (by simp) ?_
               refine AllReadyH.cons rfl (fun K hK => ?_) AllReadyH.nil
               rw [if_pos (by rfl)]
               go_simp
               have hJ9 := ((hJS.set0 (.slice go (ng + mg) gcx)).set1 (.slice vo na vcx)).set2 (.slice none 0 0)
               have hB9 := ((hBw.setCell (p := ⟨p, 0, none⟩) hpp (.slice go (ng + mg) gcx)).setCell (p := ⟨p, 1, none⟩) hpp (.slice vo na vcx)).setCell (p := ⟨p, 2, none⟩) hpp (.slice none 0 0)
               refine hK.out _ _ (HMK.out _ (((hq4.setCell (p := ⟨p, 0, none⟩) hp6 (.slice go (ng + mg) gcx)).setCell (p := ⟨p, 1, none⟩) hp6 (.slice vo na vcx)).setCell (p := ⟨p, 2, none⟩) hp6 (.slice none 0 0))) (fun hT => ?_)
               clear hK hT hx0 hx1 hx2 hf0 hf1 hf2 hJS hBw
               try simp only [Act.put, List.setIfInBounds_toArray, List.set_cons_zero, List.set_cons_succ]
               refine wpAnyH_done (by kernel_rfl) ?_ _
               go_wp2_with fail
               go_meet
               exact ⟨_, _, _, rfl, hJ9, hB9⟩
              ·
               rw [if_pos (by rfl)]
               go_simp
               have bn := (Below.refl _ W2).alloc (Nat.le_refl _) (.cells #[.slice none 0 0, .slice none 0 0, .slice none 0 0] 49)
               have ho3 := OB.new W2 (.slice none 0 0) (.slice none 0 0) (.slice none 0 0)
               have hpp : w3.heap.size ≤ W2.heap.size := Nat.le_trans hs6 hq2.size
               have hp6 : w6.heap.size ≤ W2.heap.size := hq2.size
               have hg3 := own_keepL bn hg2
               have hq3 := hq2.trans (bn.mono hq2.size)
               refine hK.out _ _ (HMK.out _ hq3) (fun hT => ?_)
               clear hK bn hT
               try simp only [Act.put, List.setIfInBounds_toArray, List.set_cons_zero, List.set_cons_succ]
               generalize W2.heap.size = p at ho3 hpp hp6 ⊢
               generalize hw : World.alloc W2 _ = W3 at hq3 hg3 ho3 ⊢
               clear hw
               refine wpAnyH_ready (rs := [8]) (by kernel_rfl) (by simp) ?_
               refine AllReadyH.cons rfl (fun K hK => ?_) AllReadyH.nil
               rw [if_pos (by rfl)]
               go_simp
               go_at_call 43
               refine (cloneV_any va na vc V _ (HVk.out.keepL (cells_keepL hq3 (Nat.le_refl _))) HNA.out (by omega)).mono ?_; rintro e W4 ⟨vv, rfl, hv0, bn⟩
               obtain ⟨vo, vcx, rfl⟩ := own_slice hv0
               have hv4 := own_monoJ hv0 (show w3.heap.size ≤ _ from Nat.le_trans hs6 hq3.size)
               clear hv0
               have hg4 := own_keepL bn hg3
               have ho4 := ho3.below bn ho3.lt
               have hq4 := hq3.trans (bn.mono hq3.size)
               refine hK.out _ _ (HMK.out _ hq4) (fun hT => ?_)
               clear hK bn hT
               try simp only [Act.put, List.setIfInBounds_toArray, List.set_cons_zero, List.set_cons_succ]
               have hT := HMK.out _ hq4
               refine wpAnyH_take (i := 9) (oi := { dst := some 137, op := _, type := _, pos := _, after := _, guard := _ }) (v := .agg #[.slice go (ng + mg) gcx, .slice vo na vcx, .slice none 0 0]) rfl (by kernel_rfl) (by kernel_rfl) (by kernel_rfl) (fun _ _ _ h => h) (Or.inl ⟨by rfl, fun w' hSw => (by (try dsimp only at hSw); go_simp)⟩) (by assumption) ?_
               try simp only [Act.put, List.setIfInBounds_toArray, List.set_cons_zero, List.set_cons_succ]
               clear hT
               have hJS : JS w.heap.size w3.heap.size W4 p (.slice none 0 0) (.slice none 0 0) (.slice none 0 0) (.slice go (ng + mg) gcx) (.slice vo na vcx) (.slice none 0 0) (G ++ G') V [] w3.heap.size J := ⟨hb3.size, hpp, Nat.le_refl _, ho4, by rw [List.length_append, HNG.out, HMG.out]; exact hg4, by rw [HNA.out]; exact hv4, World.ownsRow_nil _ _ _ _, fun x hx => (by cases hx), by rw [hJl]; exact (hq4.block _ hi6).trans hAJ⟩
               have hBw := hB.trans (hq4.mono hs6)
               have hx0 := hJS.o.c0
               have hx1 := hJS.o.c1
               have hx2 := hJS.o.c2
               have hf0 := hJS.o.f 0
               have hf1 := hJS.o.f 1
               have hf2 := hJS.o.f 2
               refine wpAnyH_ready (rs := [11]) (by kernel_rfl) (by simp) ?_
               refine AllReadyH.cons rfl (fun K hK => ?_) AllReadyH.nil
               rw [if_pos (by rfl)]
               go_simp
               have hJ9 := ((hJS.set0 (.slice go (ng + mg) gcx)).set1 (.slice vo na vcx)).set2 (.slice none 0 0)
               have hB9 := ((hBw.setCell (p := ⟨p, 0, none⟩) hpp (.slice go (ng + mg) gcx)).setCell (p := ⟨p, 1, none⟩) hpp (.slice vo na vcx)).setCell (p := ⟨p, 2, none⟩) hpp (.slice none 0 0)
               refine hK.out _ _ (HMK.out _ (((hq4.setCell (p := ⟨p, 0, none⟩) hp6 (.slice go (ng + mg) gcx)).setCell (p := ⟨p, 1, none⟩) hp6 (.slice vo na vcx)).setCell (p := ⟨p, 2, none⟩) hp6 (.slice none 0 0))) (fun hT => ?_)
               clear hK hT hx0 hx1 hx2 hf0 hf1 hf2 hJS hBw
               try simp only [Act.put, List.setIfInBounds_toArray, List.set_cons_zero, List.set_cons_succ]
               refine wpAnyH_done (by kernel_rfl) ?_ _
               go_wp2_with fail
               go_meet
               exact ⟨_, _, _, rfl, hJ9, hB9⟩
             ·
              rw [if_pos (by rfl)]
              go_simp
              have bn := (Below.refl _ W1).alloc (Nat.le_refl _) (.cells #[.slice none 0 0, .slice none 0 0, .slice none 0 0] 49)
              have ho2 := OB.new W1 (.slice none 0 0) (.slice none 0 0) (.slice none 0 0)
              have hpp : w3.heap.size ≤ W1.heap.size := Nat.le_trans hs6 hq1.size
              have hp6 : w6.heap.size ≤ W1.heap.size := hq1.size
              have hr20 := cells_keepL bn (Nat.le_refl _) _ _ hr10
              have hr21 := cells_keepL bn (Nat.le_refl _) _ _ hr11
              have hq2 := hq1.trans (bn.mono hq1.size)
              refine hK.out _ _ (HMK.out _ hq2) (fun hT => ?_)
              clear hK bn hT
              try simp only [Act.put, List.setIfInBounds_toArray, List.set_cons_zero, List.set_cons_succ]
              generalize W1.heap.size = p at ho2 hpp hp6 ⊢
              generalize hw : World.alloc W1 _ = W2 at hq2 hr20 hr21 ho2 ⊢
              clear hw
              refine wpAnyH_ready (rs := [5]) (by kernel_rfl) (by simp) ?_
              refine AllReadyH.cons rfl (fun K hK => ?_) AllReadyH.nil
              rw [if_pos (by rfl)]
              go_simp
              go_at_call 42
              refine (concatG_any r ga ga' ng mg gc gc' G G' _ hr20 hr21 (HGk.out.keep (cells_keepL hq2 (Nat.le_refl _))) (HGk'.out.keep (cells_keepL hq2 (Nat.le_refl _))) HNG.out HMG.out (by omega) (by omega)).mono ?_; rintro e W3 ⟨gv, rfl, hg0, bn⟩
              obtain ⟨go, gcx, rfl⟩ := own_slice hg0
              have hg3 := own_monoJ hg0 (show w3.heap.size ≤ _ from Nat.le_trans hs6 hq2.size)
              clear hg0
              have ho3 := ho2.below bn ho2.lt
              have hq3 := hq2.trans (bn.mono hq2.size)
              refine hK.out _ _ (HMK.out _ hq3) (fun hT => ?_)
              clear hK bn hT
              try simp only [Act.put, List.setIfInBounds_toArray, List.set_cons_zero, List.set_cons_succ]
              refine wpAnyH_ready (rs := [8]) (by kernel_rfl) (by simp) ?_
              refine AllReadyH.cons rfl (fun K hK => ?_) AllReadyH.nil
              rw [if_pos (by rfl)]
              go_simp
              go_at_call 43
              refine (cloneV_any va na vc V _ (HVk.out.keepL (cells_keepL hq3 (Nat.le_refl _))) HNA.out (by omega)).mono ?_; rintro e W4 ⟨vv, rfl, hv0, bn⟩
              obtain ⟨vo, vcx, rfl⟩ := own_slice hv0
              have hv4 := own_monoJ hv0 (show w3.heap.size ≤ _ from Nat.le_trans hs6 hq3.size)
              clear hv0
              have hg4 := own_keepL bn hg3
              have ho4 := ho3.below bn ho3.lt
              have hq4 := hq3.trans (bn.mono hq3.size)
              refine hK.out _ _ (HMK.out _ hq4) (fun hT => ?_)
              clear hK bn hT
              try simp only [Act.put, List.setIfInBounds_toArray, List.set_cons_zero, List.set_cons_succ]
              have hT := HMK.out _ hq4
              refine wpAnyH_take (i := 9) (oi := { dst := some 137, op := _, type := _, pos := _, after := _, guard := _ }) (v := .agg #[.slice go (ng + mg) gcx, .slice vo na vcx, .slice none 0 0]) rfl (by kernel_rfl) (by kernel_rfl) (by kernel_rfl) (fun _ _ _ h => h) (Or.inl ⟨by rfl, fun w' hSw => (by (try dsimp only at hSw); go_simp)⟩) (by assumption) ?_
              try simp only [Act.put, List.setIfInBounds_toArray, List.set_cons_zero, List.set_cons_succ]
              clear hT
              have hJS : JS w.heap.size w3.heap.size W4 p (.slice none 0 0) (.slice none 0 0) (.slice none 0 0) (.slice go (ng + mg) gcx) (.slice vo na vcx) (.slice none 0 0) (G ++ G') V [] w3.heap.size J := ⟨hb3.size, hpp, Nat.le_refl _, ho4, by rw [List.length_append, HNG.out, HMG.out]; exact hg4, by rw [HNA.out]; exact hv4, World.ownsRow_nil _ _ _ _, fun x hx => (by cases hx), by rw [hJl]; exact (hq4.block _ hi6).trans hAJ⟩
              have hBw := hB.trans (hq4.mono hs6)
              have hx0 := hJS.o.c0
              have hx1 := hJS.o.c1
              have hx2 := hJS.o.c2
              have hf0 := hJS.o.f 0
              have hf1 := hJS.o.f 1
              have hf2 := hJS.o.f 2
              refine wpAnyH_ready (rs := [11]) (by kernel_rfl) (by simp) ?_
              refine AllReadyH.cons rfl (fun K hK => ?_) AllReadyH.nil
              rw [if_pos (by rfl)]
              go_simp
              have hJ9 := ((hJS.set0 (.slice go (ng + mg) gcx)).set1 (.slice vo na vcx)).set2 (.slice none 0 0)
              have hB9 := ((hBw.setCell (p := ⟨p, 0, none⟩) hpp (.slice go (ng + mg) gcx)).setCell (p := ⟨p, 1, none⟩) hpp (.slice vo na vcx)).setCell (p := ⟨p, 2, none⟩) hpp (.slice none 0 0)
              refine hK.out _ _ (HMK.out _ (((hq4.setCell (p := ⟨p, 0, none⟩) hp6 (.slice go (ng + mg) gcx)).setCell (p := ⟨p, 1, none⟩) hp6 (.slice vo na vcx)).setCell (p := ⟨p, 2, none⟩) hp6 (.slice none 0 0))) (fun hT => ?_)
              clear hK hT hx0 hx1 hx2 hf0 hf1 hf2 hJS hBw
              try simp only [Act.put, List.setIfInBounds_toArray, List.set_cons_zero, List.set_cons_succ]
              refine wpAnyH_done (by kernel_rfl) ?_ _
              go_wp2_with fail
              go_meet
              exact ⟨_, _, _, rfl, hJ9, hB9⟩
            ·
             rw [if_pos (by rfl)]
             go_simp
             have bn := (Below.refl _ W0).alloc (Nat.le_refl _) (.cells #[.slice none 0 0, .slice none 0 0, .slice none 0 0] 49)
             have ho1 := OB.new W0 (.slice none 0 0) (.slice none 0 0) (.slice none 0 0)
             have hpp : w3.heap.size ≤ W0.heap.size := Nat.le_trans hs6 hq0.size
             have hp6 : w6.heap.size ≤ W0.heap.size := hq0.size
             have hq1 := hq0.trans (bn.mono hq0.size)
             refine hK.out _ _ (HMK.out _ hq1) (fun hT => ?_)
             clear hK bn hT
             try simp only [Act.put, List.setIfInBounds_toArray, List.set_cons_zero, List.set_cons_succ]
             generalize W0.heap.size = p at ho1 hpp hp6 ⊢
             generalize hw : World.alloc W0 _ = W1 at hq1 ho1 ⊢
             clear hw
             refine wpAnyH_ready (rs := [4]) (by kernel_rfl) (by simp) ?_
             refine AllReadyH.cons rfl (fun K hK => ?_) AllReadyH.nil
             rw [if_pos (by rfl)]
             go_simp
             have bn := (Below.refl _ W1).alloc (Nat.le_refl _) (.cells #[.slice ga ng gc, .slice ga' mg gc'] 38)
             have hr20 : (W1.alloc (.cells #[.slice ga ng gc, .slice ga' mg gc'] 38)).cell? ⟨W1.heap.size, 0, none⟩ = some (.slice ga ng gc) := by rw [Lib.cell_of_heap (heap_alloc_new W1 _)]; rfl
             have hr21 : (W1.alloc (.cells #[.slice ga ng gc, .slice ga' mg gc'] 38)).cell? ⟨W1.heap.size, 1, none⟩ = some (.slice ga' mg gc') := by rw [Lib.cell_of_heap (heap_alloc_new W1 _)]; rfl
             have ho2 := ho1.below bn ho1.lt
             have hq2 := hq1.trans (bn.mono hq1.size)
             refine hK.out _ _ (HMK.out _ hq2) (fun hT => ?_)
             clear hK bn hT
             try simp only [Act.put, List.setIfInBounds_toArray, List.set_cons_zero, List.set_cons_succ]
             generalize W1.heap.size = r at hr20 hr21 ⊢
             generalize hw : World.alloc W1 _ = W2 at hq2 hr20 hr21 ho2 ⊢
             clear hw
             refine wpAnyH_ready (rs := [5]) (by kernel_rfl) (by simp) ?_
             refine AllReadyH.cons rfl (fun K hK => ?_) AllReadyH.nil
             rw [if_pos (by rfl)]
             go_simp
             go_at_call 42
             refine (concatG_any r ga ga' ng mg gc gc' G G' _ hr20 hr21 (HGk.out.keep (cells_keepL hq2 (Nat.le_refl _))) (HGk'.out.keep (cells_keepL hq2 (Nat.le_refl _))) HNG.out HMG.out (by omega) (by omega)).mono ?_; rintro e W3 ⟨gv, rfl, hg0, bn⟩
             obtain ⟨go, gcx, rfl⟩ := own_slice hg0
             have hg3 := own_monoJ hg0 (show w3.heap.size ≤ _ from Nat.le_trans hs6 hq2.size)
             clear hg0
             have ho3 := ho2.below bn ho2.lt
             have hq3 := hq2.trans (bn.mono hq2.size)
             refine hK.out _ _ (HMK.out _ hq3) (fun hT => ?_)
             clear hK bn hT
             try simp only [Act.put, List.setIfInBounds_toArray, List.set_cons_zero, List.set_cons_succ]
             refine wpAnyH_ready (rs := [8]) (by kernel_rfl) (by simp) ?_
             refine AllReadyH.cons rfl (fun K hK => ?_) AllReadyH.nil
             rw [if_pos (by rfl)]
             go_simp
             go_at_call 43
             refine (cloneV_any va na vc V _ (HVk.out.keepL (cells_keepL hq3 (Nat.le_refl _))) HNA.out (by omega)).mono ?_; rintro e W4 ⟨vv, rfl, hv0, bn⟩
             obtain ⟨vo, vcx, rfl⟩ := own_slice hv0
             have hv4 := own_monoJ hv0 (show w3.heap.size ≤ _ from Nat.le_trans hs6 hq3.size)
             clear hv0
             have hg4 := own_keepL bn hg3
             have ho4 := ho3.below bn ho3.lt
             have hq4 := hq3.trans (bn.mono hq3.size)
             refine hK.out _ _ (HMK.out _ hq4) (fun hT => ?_)
             clear hK bn hT
             try simp only [Act.put, List.setIfInBounds_toArray, List.set_cons_zero, List.set_cons_succ]
             have hT := HMK.out _ hq4
             refine wpAnyH_take (i := 9) (oi := { dst := some 137, op := _, type := _, pos := _, after := _, guard := _ }) (v := .agg #[.slice go (ng + mg) gcx, .slice vo na vcx, .slice none 0 0]) rfl (by kernel_rfl) (by kernel_rfl) (by kernel_rfl) (fun _ _ _ h => h) (Or.inl ⟨by rfl, fun w' hSw => (by (try dsimp only at hSw); go_simp)⟩) (by assumption) ?_
             try simp only [Act.put, List.setIfInBounds_toArray, List.set_cons_zero, List.set_cons_succ]
             clear hT
             have hJS : JS w.heap.size w3.heap.size W4 p (.slice none 0 0) (.slice none 0 0) (.slice none 0 0) (.slice go (ng + mg) gcx) (.slice vo na vcx) (.slice none 0 0) (G ++ G') V [] w3.heap.size J := ⟨hb3.size, hpp, Nat.le_refl _, ho4, by rw [List.length_append, HNG.out, HMG.out]; exact hg4, by rw [HNA.out]; exact hv4, World.ownsRow_nil _ _ _ _, fun x hx => (by cases hx), by rw [hJl]; exact (hq4.block _ hi6).trans hAJ⟩
             have hBw := hB.trans (hq4.mono hs6)
             have hx0 := hJS.o.c0
             have hx1 := hJS.o.c1
             have hx2 := hJS.o.c2
             have hf0 := hJS.o.f 0
             have hf1 := hJS.o.f 1
             have hf2 := hJS.o.f 2
             refine wpAnyH_ready (rs := [11]) (by kernel_rfl) (by simp) ?_
             refine AllReadyH.cons rfl (fun K hK => ?_) AllReadyH.nil
             rw [if_pos (by rfl)]
             go_simp
             have hJ9 := ((hJS.set0 (.slice go (ng + mg) gcx)).set1 (.slice vo na vcx)).set2 (.slice none 0 0)
             have hB9 := ((hBw.setCell (p := ⟨p, 0, none⟩) hpp (.slice go (ng + mg) gcx)).setCell (p := ⟨p, 1, none⟩) hpp (.slice vo na vcx)).setCell (p := ⟨p, 2, none⟩) hpp (.slice none 0 0)
             refine hK.out _ _ (HMK.out _ (((hq4.setCell (p := ⟨p, 0, none⟩) hp6 (.slice go (ng + mg) gcx)).setCell (p := ⟨p, 1, none⟩) hp6 (.slice vo na vcx)).setCell (p := ⟨p, 2, none⟩) hp6 (.slice none 0 0))) (fun hT => ?_)
             clear hK hT hx0 hx1 hx2 hf0 hf1 hf2 hJS hBw
             try simp only [Act.put, List.setIfInBounds_toArray, List.set_cons_zero, List.set_cons_succ]
             refine wpAnyH_done (by kernel_rfl) ?_ _
             go_wp2_with fail
             go_meet
             exact ⟨_, _, _, rfl, hJ9, hB9⟩
           case rest =>
            obtain ⟨p, gv, vv, rfl, hJS, hBc⟩ := hcut
            clear d0 d1 d3 HGk HGk' HVk hAJ hB
            rename World => wc
            obtain ⟨BV, hBV⟩ : ∃ t, bdV V V' P V = t := ⟨_, rfl⟩
            have HBN : Hid (BV = none → R = noJ 10) := fun h => by rw [hR]; exact vrJ_none (by rw [HPA.out.2.1, HPB.out.2.1, hBV]; exact h)
            have HBS : Hid (∀ VV, BV = some VV → R = endJ (jnS SA SB (flJ V' 0 J VV), (flJ V' 0 J VV).1)) := fun VV h => by
             rw [hR, vrJ_some (by rw [HPA.out.2.1, HPB.out.2.1, hBV]; exact h), HPB.out.2.1]
            have H6 : Hid (bdV V V' (P.drop 0) V = BV) := hBV
            have hBVo : ∀ VV, BV = some VV → VV.length = na ∧ ∀ x ∈ VV, x ∈ V ∨ x ∈ V' := fun VV h => by
             have := bdV_ok P V VV (by rw [HNA.out, HM.out]; exact HPALL.out) (hBV.trans h)
             rw [HNA.out] at this; exact this
            have HBO := Lib.hid hBVo
            clear hBV hBVo hR
            go_wp2_with fail
            rename (∀ (a : Act) (w : World), _ → _) => hkn
            revert hkn
            repeat (rename (∀ (a : Act) (w : World), _ → _) => hkn; clear hkn)
            repeat (rename (Exit → Act → World → Prop) => hqn; clear hqn)
            intro hkn
            go_loopw [140] (fun v140 wr => ∃ (k : Nat) (VV : List ByteArray), k ≤ np ∧ v140 = .int .i64 (k : Int) ∧ Hid (bdV V V' (P.drop k) VV = BV) ∧ VV.length = na ∧ Hid (∀ x ∈ VV, x ∈ V ∨ x ∈ V') ∧ JS w.heap.size w3.heap.size wr p gv vv (.slice none 0 0) gv vv (.slice none 0 0) (G ++ G') VV [] w3.heap.size J ∧ Below w3.heap.size w3 wr) (fun v140 _ => np - (intOf v140).toNat)
            case atStart => exact ⟨0, V, by omega, rfl, H6, HNA.out, fun x hx => .inl hx, hJS, hBc⟩
            case round =>
             clear H6 hJS hBc
             obtain ⟨k, VV, hk, rfl, hH, hVl, HVm, hJS, hB⟩ := hrel
             by_cases hlt : k < np
             ·
              have hbw := hb3.trans (hB.mono hb3.size)
              have hZw := hZ3.below hB hZ3.lt
              have e1 := cells_keepL hB (Nat.le_refl _) _ _ x1
              have e2 := cells_keepL hB (Nat.le_refl _) _ _ y1
              have hkP : k < P.length := by rw [HNP.out]; exact hlt
              obtain ⟨b, off, rfl, p0, p1⟩ := (HP3.out.keep (cells_keepL hB (Nat.le_refl _))) k hkP
              have hpk := prOk_iff.1 (take_all_of HPALL.out hkP)
              have hw := hH.out
              rw [List.drop_eq_getElem_cons hkP, bdV] at hw
              generalize P[k] = x at p0 p1 hw hpk
              obtain ⟨u, v⟩ := x
              simp only at p0 p1 hw hpk
              obtain ⟨z1, z2, z3, z4⟩ := hpk
              obtain ⟨i, rfl⟩ := Int.eq_ofNat_of_zero_le z1
              obtain ⟨j, rfl⟩ := Int.eq_ofNat_of_zero_le z3
              have z5 : i < na := by omega
              have z6 : j < m := by omega
              have z7 : i < V.length := by rw [HNA.out]; exact z5
              have z8 : j < V'.length := by rw [HM.out]; exact z6
              have z9 : i < VV.length := by rw [hVl]; exact z5
              rw [Int.toNat_natCast, atB_eq z7, atB_eq z8, atB_eq z9] at hw
              obtain ⟨bv, ov, rfl, v0⟩ := (HV.out.keepL (cells_keepL hB (Nat.le_refl _))) i z7
              obtain ⟨bu, ou, rfl, v1⟩ := (HV'.out.keepL (cells_keepL hB (Nat.le_refl _))) j z8
              obtain ⟨ao, cc, hvv, hvg⟩ := hJS.vlen
              obtain ⟨g, rfl⟩ := hvg (by omega)
              rw [hVl] at hvv
              subst hvv
              have hNx := HVN.out (VV[i]) (HVm.out _ (List.getElem_mem z9))
              have hNy := HVN.out (V'[j]) (.inr (List.getElem_mem z8))
              have hVx := hJS.cellV z9
              have HVs : Hid (∀ x ∈ VV.set i (mnB VV[i] V'[j]), x ∈ V ∨ x ∈ V') := fun x hx => by
               rcases List.mem_or_eq_of_mem_set hx with h | h
               ·
                exact HVm.out x h
               ·
                rcases mnB_or VV[i] V'[j] with e | e
                ·
                 rw [h, e]; exact HVm.out _ (List.getElem_mem z9)
                ·
                 rw [h, e]; exact .inr (List.getElem_mem z8)
              have hls : (VV.set i (mnB VV[i] V'[j])).length = na := by rw [List.length_set]; exact hVl
              have hself : VV.set i VV[i] = VV := List.set_getElem_self z9
              have HST := Lib.hid (fun w' (hj : JS w.heap.size w3.heap.size w' p gv (.slice (some ⟨g, 0, none⟩) na cc) (.slice none 0 0) gv (.slice (some ⟨g, 0, none⟩) na cc) (.slice none 0 0) (G ++ G') VV [] w3.heap.size J) => hj.setV i V'[j])
              have HBA := Lib.hid (fun w' (hb' : Below w3.heap.size w3 w') (x : Value) => hb'.setCell (p := ⟨g, i, none⟩) hJS.geV x)
              have hbA := (Below.refl _ wr).alloc (Nat.le_refl _) (.cells #[.int .i64 (i : Int), .int .i64 (j : Int)] 82)
              have hN := heap_alloc_new wr (.cells #[.int .i64 (i : Int), .int .i64 (j : Int)] 82)
              have n0 : (wr.alloc (.cells #[.int .i64 (i : Int), .int .i64 (j : Int)] 82)).cell? ⟨wr.heap.size, 0, none⟩ = some (.int .i64 (i : Int)) := by rw [Lib.cell_of_heap hN]; rfl
              have n1 : (wr.alloc (.cells #[.int .i64 (i : Int), .int .i64 (j : Int)] 82)).cell? ⟨wr.heap.size, 1, none⟩ = some (.int .i64 (j : Int)) := by rw [Lib.cell_of_heap hN]; rfl
              have c1 := cells_keepL hbA (Nat.le_refl _) _ _ e1
              have c2 := cells_keepL hbA (Nat.le_refl _) _ _ e2
              have s0 := cells_keepL hbA (Nat.le_refl _) _ _ v0
              have s1 := cells_keepL hbA (Nat.le_refl _) _ _ v1
              have hbe := hbw.trans (hbA.mono hbw.size)
              have hZe := hZw.below hbA hZw.lt
              have hB2 := hB.trans (hbA.mono hB.size)
              have hJ2 := hJS.alloc (.cells #[.int .i64 (i : Int), .int .i64 (j : Int)] 82)
              generalize V[i] = X0 at s0 hw
              generalize V'[j] = Y at s1 hw hNy HVs hls HST
              generalize hXX : VV[i] = X at hw hNx hVx HVs hls hself
              have HXX := Lib.hid hXX
              clear hXX
              clear hkP hH hbw hZw hN hB hJS z1 z2 z3 z4 z7 z8 v0 v1 e1 e2 hVx
              go_upto_region 38 with fail
              generalize hw9 : World.alloc wr _ = w9 at hbA n0 n1 c1 c2 s0 s1 hbe hZe hB2 hJ2 ⊢
              clear hw9
              refine wp_region_held_drew (S := (fun w' => w'.cell? ⟨w.heap.size, 1, none⟩ = some (.slice (some ⟨bv, ov, none⟩) na vc) ∧ w'.cell? ⟨w.heap.size + 1, 1, none⟩ = some (.slice (some ⟨bu, ou, none⟩) m vc') ∧ w'.cell? ⟨wr.heap.size, 0, none⟩ = some (.int .i64 (i : Int)) ∧ w'.cell? ⟨wr.heap.size, 1, none⟩ = some (.int .i64 (j : Int)) ∧ w'.cell? ⟨bv, ov + i, none⟩ = some (.string X0) ∧ w'.cell? ⟨bu, ou + j, none⟩ = some (.string Y))) (by kernel_rfl) ⟨c1, c2, n0, n1, s0, s1⟩ (fun hS0 => ?_)
              refine wpAnyH_take (i := 0) (oi := { dst := some 144, op := _, type := _, pos := _, after := _, guard := _ }) (v := .pointer (some (⟨w.heap.size, 1, none⟩ : Addr))) rfl (by kernel_rfl) (by kernel_rfl) (by kernel_rfl) (fun _ _ _ h => h) (Or.inl ⟨by rfl, fun w' hSw => (by (try dsimp only at hSw); go_simp)⟩) (by assumption) ?_
              try simp only [Act.put, List.setIfInBounds_toArray, List.set_cons_zero, List.set_cons_succ]
              refine wpAnyH_take (i := 1) (oi := { dst := some 145, op := _, type := _, pos := _, after := _, guard := _ }) (v := .slice (some ⟨bv, ov, none⟩) na vc) rfl (by kernel_rfl) (by kernel_rfl) (by kernel_rfl) (fun _ _ _ h => h) (Or.inl ⟨by rfl, fun w' hSw => (by (try dsimp only at hSw); obtain ⟨g0, g1, g2, g3, g4, g5⟩ := hSw; go_simp)⟩) (by assumption) ?_
              try simp only [Act.put, List.setIfInBounds_toArray, List.set_cons_zero, List.set_cons_succ]
              refine wpAnyH_take (i := 2) (oi := { dst := some 146, op := _, type := _, pos := _, after := _, guard := _ }) (v := .pointer (some (⟨wr.heap.size, 0, none⟩ : Addr))) rfl (by kernel_rfl) (by kernel_rfl) (by kernel_rfl) (fun _ _ _ h => h) (Or.inl ⟨by rfl, fun w' hSw => (by (try dsimp only at hSw); go_simp)⟩) (by assumption) ?_
              try simp only [Act.put, List.setIfInBounds_toArray, List.set_cons_zero, List.set_cons_succ]
              refine wpAnyH_take (i := 3) (oi := { dst := some 147, op := _, type := _, pos := _, after := _, guard := _ }) (v := .int .i64 (i : Int)) rfl (by kernel_rfl) (by kernel_rfl) (by kernel_rfl) (fun _ _ _ h => h) (Or.inl ⟨by rfl, fun w' hSw => (by (try dsimp only at hSw); obtain ⟨g0, g1, g2, g3, g4, g5⟩ := hSw; go_simp)⟩) (by assumption) ?_
              try simp only [Act.put, List.setIfInBounds_toArray, List.set_cons_zero, List.set_cons_succ]
              refine wpAnyH_take (i := 4) (oi := { dst := some 148, op := _, type := _, pos := _, after := _, guard := _ }) (v := .pointer (some (⟨bv, ov + i, none⟩ : Addr))) rfl (by kernel_rfl) (by kernel_rfl) (by kernel_rfl) (fun _ _ _ h => h) (Or.inl ⟨by rfl, fun w' hSw => (by (try dsimp only at hSw); go_simp)⟩) (by assumption) ?_
              try simp only [Act.put, List.setIfInBounds_toArray, List.set_cons_zero, List.set_cons_succ]
              refine wpAnyH_take (i := 5) (oi := { dst := some 149, op := _, type := _, pos := _, after := _, guard := _ }) (v := .pointer (some (⟨bv, ov + i, none⟩ : Addr))) rfl (by kernel_rfl) (by kernel_rfl) (by kernel_rfl) (fun _ _ _ h => h) (Or.inl ⟨by rfl, fun w' hSw => (by (try dsimp only at hSw); go_simp)⟩) (by assumption) ?_
              try simp only [Act.put, List.setIfInBounds_toArray, List.set_cons_zero, List.set_cons_succ]
              refine wpAnyH_take (i := 6) (oi := { dst := some 150, op := _, type := _, pos := _, after := _, guard := _ }) (v := .string X0) rfl (by kernel_rfl) (by kernel_rfl) (by kernel_rfl) (fun _ _ _ h => h) (Or.inl ⟨by rfl, fun w' hSw => (by (try dsimp only at hSw); obtain ⟨g0, g1, g2, g3, g4, g5⟩ := hSw; go_simp)⟩) (by assumption) ?_
              try simp only [Act.put, List.setIfInBounds_toArray, List.set_cons_zero, List.set_cons_succ]
              refine wpAnyH_take (i := 7) (oi := { dst := some 151, op := _, type := _, pos := _, after := _, guard := _ }) (v := .pointer (some (⟨w.heap.size + 1, 1, none⟩ : Addr))) rfl (by kernel_rfl) (by kernel_rfl) (by kernel_rfl) (fun _ _ _ h => h) (Or.inl ⟨by rfl, fun w' hSw => (by (try dsimp only at hSw); go_simp)⟩) (by assumption) ?_
              try simp only [Act.put, List.setIfInBounds_toArray, List.set_cons_zero, List.set_cons_succ]
              refine wpAnyH_take (i := 8) (oi := { dst := some 152, op := _, type := _, pos := _, after := _, guard := _ }) (v := .slice (some ⟨bu, ou, none⟩) m vc') rfl (by kernel_rfl) (by kernel_rfl) (by kernel_rfl) (fun _ _ _ h => h) (Or.inl ⟨by rfl, fun w' hSw => (by (try dsimp only at hSw); obtain ⟨g0, g1, g2, g3, g4, g5⟩ := hSw; go_simp)⟩) (by assumption) ?_
              try simp only [Act.put, List.setIfInBounds_toArray, List.set_cons_zero, List.set_cons_succ]
              refine wpAnyH_take (i := 9) (oi := { dst := some 153, op := _, type := _, pos := _, after := _, guard := _ }) (v := .pointer (some (⟨wr.heap.size, 1, none⟩ : Addr))) rfl (by kernel_rfl) (by kernel_rfl) (by kernel_rfl) (fun _ _ _ h => h) (Or.inl ⟨by rfl, fun w' hSw => (by (try dsimp only at hSw); go_simp)⟩) (by assumption) ?_
              try simp only [Act.put, List.setIfInBounds_toArray, List.set_cons_zero, List.set_cons_succ]
              refine wpAnyH_take (i := 10) (oi := { dst := some 154, op := _, type := _, pos := _, after := _, guard := _ }) (v := .int .i64 (j : Int)) rfl (by kernel_rfl) (by kernel_rfl) (by kernel_rfl) (fun _ _ _ h => h) (Or.inl ⟨by rfl, fun w' hSw => (by (try dsimp only at hSw); obtain ⟨g0, g1, g2, g3, g4, g5⟩ := hSw; go_simp)⟩) (by assumption) ?_
              try simp only [Act.put, List.setIfInBounds_toArray, List.set_cons_zero, List.set_cons_succ]
              refine wpAnyH_take (i := 11) (oi := { dst := some 155, op := _, type := _, pos := _, after := _, guard := _ }) (v := .pointer (some (⟨bu, ou + j, none⟩ : Addr))) rfl (by kernel_rfl) (by kernel_rfl) (by kernel_rfl) (fun _ _ _ h => h) (Or.inl ⟨by rfl, fun w' hSw => (by (try dsimp only at hSw); go_simp)⟩) (by assumption) ?_
              try simp only [Act.put, List.setIfInBounds_toArray, List.set_cons_zero, List.set_cons_succ]
              refine wpAnyH_take (i := 12) (oi := { dst := some 156, op := _, type := _, pos := _, after := _, guard := _ }) (v := .pointer (some (⟨bu, ou + j, none⟩ : Addr))) rfl (by kernel_rfl) (by kernel_rfl) (by kernel_rfl) (fun _ _ _ h => h) (Or.inl ⟨by rfl, fun w' hSw => (by (try dsimp only at hSw); go_simp)⟩) (by assumption) ?_
              try simp only [Act.put, List.setIfInBounds_toArray, List.set_cons_zero, List.set_cons_succ]
              refine wpAnyH_take (i := 13) (oi := { dst := some 157, op := _, type := _, pos := _, after := _, guard := _ }) (v := .string Y) rfl (by kernel_rfl) (by kernel_rfl) (by kernel_rfl) (fun _ _ _ h => h) (Or.inl ⟨by rfl, fun w' hSw => (by (try dsimp only at hSw); obtain ⟨g0, g1, g2, g3, g4, g5⟩ := hSw; go_simp)⟩) (by assumption) ?_
              try simp only [Act.put, List.setIfInBounds_toArray, List.set_cons_zero, List.set_cons_succ]
              refine wpAnyH_take (i := 14) (oi := { dst := some 24, op := _, type := _, pos := _, after := _, guard := _ }) (v := .string X0) rfl (by kernel_rfl) (by kernel_rfl) (by kernel_rfl) (fun _ _ _ h => h) (Or.inl ⟨by rfl, fun w' hSw => (by (try dsimp only at hSw); go_simp)⟩) (by assumption) ?_
              try simp only [Act.put, List.setIfInBounds_toArray, List.set_cons_zero, List.set_cons_succ]
              refine wpAnyH_take (i := 15) (oi := { dst := some 25, op := _, type := _, pos := _, after := _, guard := _ }) (v := .string Y) rfl (by kernel_rfl) (by kernel_rfl) (by kernel_rfl) (fun _ _ _ h => h) (Or.inl ⟨by rfl, fun w' hSw => (by (try dsimp only at hSw); go_simp)⟩) (by assumption) ?_
              try simp only [Act.put, List.setIfInBounds_toArray, List.set_cons_zero, List.set_cons_succ]
              refine wpAnyH_done (by kernel_rfl) ?_ _
              clear hS0
              replace hbe := hbe.drew
              replace hB2 := hB2.drew
              replace hZe : OB w9.drew (w.heap.size + 1 + 1) (.slice none 0 0) (.slice none 0 0) (.slice none 0 0) := hZe
              replace hJ2 := hJ2.drew
              replace n0 : w9.drew.cell? ⟨wr.heap.size, 0, none⟩ = some (.int .i64 (i : Int)) := n0
              replace n1 : w9.drew.cell? ⟨wr.heap.size, 1, none⟩ = some (.int .i64 (j : Int)) := n1
              generalize World.drew _ = w8 at hbe hB2 hZe hJ2 n0 n1 ⊢
              clear hbA c1 c2 s0 s1
              have k1 := hJ2.o.c1
              have kx := hJ2.cellV z9
              rw [HXX.out] at kx
              have hfv := hJ2.frzV i
              rcases em_cases X0 with ⟨m0, rfl⟩ | ⟨m0, m1, m2⟩ <;> rcases em_cases Y with ⟨n2, rfl⟩ | ⟨n2, n3, n4⟩
              rotate_left
              rotate_left
              rotate_left
              ·
               rw [m0, n2] at hw
               rw [if_pos rfl] at hw
               rcases ncmpLt (Num.nv Y) (Num.nv X) with ⟨t1, hz⟩ | ⟨t1, hz⟩
               ·
                have HC := Lib.hid (cmpL hNy hNx hz)
                have hm : mnB X Y = Y := by unfold mnB; rw [if_pos t1]
                rw [hm] at hw HVs hls
                have HW := Lib.hid hw
                have hJ3 := HST.out _ hJ2
                have hB3 := HBA.out _ hB2 (.string Y)
                clear hw hm t1 hz
                go_wp2_with fail
                refine (HC.out _).mono ?_; rintro e w1 ⟨rfl, rfl⟩
                go_wp2_with fail
                exact ⟨⟨k + 1, _, by omega, by go_num, HW, hls, HVs, hJ3, hB3⟩, by simp [intOf]; omega⟩
               ·
                have hm : mnB X Y = X := by unfold mnB; rw [if_neg t1]
                rw [hm, hself] at hw HVs
                have HW := Lib.hid hw
                have HC : Hid (∀ w, Calls Tryz.prog 30 #[.string Y, .string X] w fun e w' => ∃ z : Int, e = .returned (.int .i64 z) ∧ decide (z < 0) = false ∧ w = w') := fun w => by
                 rcases hz with hz | hz <;> exact (cmpL hNy hNx hz w).mono fun e w' ⟨g1, g2⟩ => ⟨_, g1, by decide, g2⟩
                clear hw hm t1 hz HBA HST
                go_wp2_with fail
                refine (HC.out _).mono ?_; rintro e w1 ⟨z, rfl, hz, rfl⟩
                go_wp2_with fail
                exact ⟨⟨k + 1, _, by omega, by go_num, HW, hVl, HVs, hJ2, hB2⟩, by simp [intOf]; omega⟩
              ·
               rw [m0] at hw
               rw [if_pos rfl] at hw
               rcases ncmpLt (Num.nv ⟨#[]⟩) (Num.nv X) with ⟨t1, hz⟩ | ⟨t1, hz⟩
               ·
                have HC := Lib.hid (cmpL hNy hNx hz)
                have hm : mnB X ⟨#[]⟩ = ⟨#[]⟩ := by unfold mnB; rw [if_pos t1]
                rw [hm] at hw HVs hls
                have HW := Lib.hid hw
                have hJ3 := HST.out _ hJ2
                have hB3 := HBA.out _ hB2 (.string ⟨#[]⟩)
                clear hw hm t1 hz
                go_wp2_with fail
                refine (HC.out _).mono ?_; rintro e w1 ⟨rfl, rfl⟩
                go_wp2_with fail
                exact ⟨⟨k + 1, _, by omega, by go_num, HW, hls, HVs, hJ3, hB3⟩, by simp [intOf]; omega⟩
               ·
                have hm : mnB X ⟨#[]⟩ = X := by unfold mnB; rw [if_neg t1]
                rw [hm, hself] at hw HVs
                have HW := Lib.hid hw
                have HC : Hid (∀ w, Calls Tryz.prog 30 #[.string ⟨#[]⟩, .string X] w fun e w' => ∃ z : Int, e = .returned (.int .i64 z) ∧ decide (z < 0) = false ∧ w = w') := fun w => by
                 rcases hz with hz | hz <;> exact (cmpL hNy hNx hz w).mono fun e w' ⟨g1, g2⟩ => ⟨_, g1, by decide, g2⟩
                clear hw hm t1 hz HBA HST
                go_wp2_with fail
                refine (HC.out _).mono ?_; rintro e w1 ⟨z, rfl, hz, rfl⟩
                go_wp2_with fail
                exact ⟨⟨k + 1, _, by omega, by go_num, HW, hVl, HVs, hJ2, hB2⟩, by simp [intOf]; omega⟩
              ·
               rw [m0, n2] at hw
               rw [if_neg (by decide)] at hw
               have hR := HBN.out hw.symm
               subst hR
               clear hw
               have f0 := hZe.f 0
               have f1 := hZe.f 1
               have f2 := hZe.f 2
               have g0 := hZe.c0
               have g1 := hZe.c1
               have g2 := hZe.c2
               go_upto_region 40 with fail
               repeat go_step
               exact bodyPost_st3 rfl rfl rfl rfl (put3 hZe) rfl (JoP.fail hbe (by omega))
              ·
               rw [m0, n2] at hw
               rw [if_neg (by decide)] at hw
               have hR := HBN.out hw.symm
               subst hR
               clear hw
               have f0 := hZe.f 0
               have f1 := hZe.f 1
               have f2 := hZe.f 2
               have g0 := hZe.c0
               have g1 := hZe.c1
               have g2 := hZe.c2
               go_upto_region 40 with fail
               repeat go_step
               exact bodyPost_st3 rfl rfl rfl rfl (put3 hZe) rfl (JoP.fail hbe (by omega))
             ·
              obtain rfl : np = k := by omega
              have hw := hH.out
              rw [List.drop_of_length_le (by rw [HNP.out]; omega)] at hw
              have hR := HBS.out VV hw.symm
              obtain ⟨FJ, hFJ⟩ : ∃ t, flJ V' 0 J VV = t := ⟨_, rfl⟩
              have hfo := flJ_ok V' 0 J VV (by rw [HM.out, hJl]; omega) (fun i h => by omega) (by rw [hVl]; exact hJo)
              rw [hFJ] at hR hfo
              rw [HM.out, hVl, hJl] at hfo
              have HFO := Lib.hid (And.intro hfo HVm.out)
              have H7 : Hid (flJ (V'.drop 0) 0 J VV = FJ) := hFJ
              clear hw hH hFJ hfo HBN HBS HBO HVm
              have e2 := cells_keepL hB (Nat.le_refl _) _ _ y1
              have hVl7 : VV.length ≤ na := by omega
              go_wp2_with fail
              clear e2
              rename (∀ (a : Act) (w : World), _ → _) => hkn
              revert hkn
              repeat (rename (∀ (a : Act) (w : World), _ → _) => hkn; clear hkn)
              repeat (rename (Exit → Act → World → Prop) => hqn; clear hqn)
              intro hkn
              go_loopw [185] (fun v185 wr => ∃ (k : Nat) (JJ : List Int) (VW : List ByteArray) (vw : Value), k ≤ m ∧ v185 = .int .i64 (k : Int) ∧ Hid (flJ (V'.drop k) k JJ VW = FJ) ∧ JJ.length = m ∧ VW.length ≤ na + k ∧ JS w.heap.size w3.heap.size wr p gv vw (.slice none 0 0) gv vw (.slice none 0 0) (G ++ G') VW [] w3.heap.size JJ ∧ Below w3.heap.size w3 wr) (fun v185 _ => m - (intOf v185).toNat)
              case atStart => exact ⟨0, J, VV, vv, by omega, rfl, H7, hJl, hVl7, hJS, hB⟩
              case round =>
               clear H7 hJS hB hVl hVl7 hJl hJo
               obtain ⟨k, JJ, VW, vw, hk, rfl, hH, hJl, hVl, hJS, hB⟩ := hrel
               by_cases hlt : k < m
               ·
                have hkV : k < V'.length := by rw [HM.out]; exact hlt
                obtain ⟨bu, ou, rfl, v1⟩ := (HV'.out.keepL (cells_keepL hB (Nat.le_refl _))) k hkV
                have hw := hH.out
                rw [List.drop_eq_getElem_cons hkV, flJ] at hw
                generalize V'[k] = x at v1 hw
                obtain ⟨ao, cc, hvv, _⟩ := hJS.vlen
                subst hvv
                obtain ⟨n7, hn7⟩ : ∃ n, VW.length = n := ⟨_, rfl⟩
                rw [hn7] at hw hVl hJS
                have hbA := (Below.refl _ wr).alloc (Nat.le_refl _) (.cells #[.string x] 40)
                have hN := VrB.new wr x
                have n0 := hN.c0
                have hB2 := hB.trans (hbA.mono hB.size)
                have hJ2 := hJS.alloc (.cells #[.string x] 40)
                have hc0 := hJ2.cellJ (show k < JJ.length by omega)
                have hf0 := hJ2.frzJ k
                have k1 := hJ2.o.c1
                have hJ3 := (hJS.setJ (show k < JJ.length by omega) (n7 : Int)).alloc (.cells #[.string x] 40)
                have hBx := hB.setCell (p := ⟨w3.heap.size, k, none⟩) (Nat.le_refl _) (.int .i64 (n7 : Int))
                have hB3 := hBx.alloc hBx.size (.cells #[.string x] 40)
                have hls : (JJ.set k (n7 : Int)).length = m := by rw [List.length_set]; exact hJl
                generalize JJ.getD k 0 = z at hc0 hw
                have hil := hJS.i.lt
                clear hkV hH hJS
                by_cases tz : z < 0
                ·
                 rw [if_pos tz] at hw
                 have q1 : decide (z < 0) = true := decide_eq_true tz
                 have HW := Lib.hid hw
                 have k2 := hJ3.o.c1
                 have n2 : ((wr.setCell ⟨w3.heap.size, k, none⟩ (.int .i64 (n7 : Int))).alloc (.cells #[.string x] 40)).cell? ⟨wr.heap.size, 0, none⟩ = some (.string x) := by
                  have h9 := (VrB.new (wr.setCell ⟨w3.heap.size, k, none⟩ (.int .i64 (n7 : Int))) x).c0
                  rw [World.size_setCell] at h9
                  exact h9
                 have hlw : (VW ++ [x]).length ≤ na + (k + 1) := by rw [List.length_append, hn7, List.length_singleton]; omega
                 clear hw
                 go_upto_region 49 with fail
                 generalize hw9 : World.alloc (World.setCell _ _ _) _ = w9 at hJ3 hB3 k2 n2 ⊢
                 clear hw9 hBx hc0 hf0 k1 n0 hbA hN
                 have hJ4 := hJ3.alloc (.cells #[.string x] 40)
                 have hB4 := hB3.alloc hB3.size (.cells #[.string x] 40)
                 have HNC : Hid ((w9.alloc (.cells #[.string x] 40)).cell? ⟨w9.heap.size, 0, none⟩ = some (.string x)) := by show _ = _; rw [Lib.cell_of_heap (heap_alloc_new w9 _)]; rfl
                 have hov := hJ4.v
                 rw [hn7] at hov
                 have HOV := Lib.hid hov
                 have HJ4 := Lib.hid hJ4
                 have HB4 := Lib.hid hB4
                 have hs4 := hB4.size
                 obtain ⟨i2, hy, hy0, hy1, hy2⟩ := info_parts info_var
                 clear hov hJ4 hB4 hn7
                 go_wp2_with (at_builtin; refine wpList_append_own _ rfl (.tmp 202) (.tmp 204) 41 rfl w3.heap.size 40 i2 (.agg #[.string ⟨#[]⟩]) 1 16 Tryz.underlying41 hy hy0 hy1 hy2 rfl (by decide) (.slice ao n7 cc) n7 (VW.map Value.string) rfl HOV.out ⟨w9.heap.size, 0, none⟩ 1 1 [.string x] rfl rfl (oneL HNC.out) (by simp [Value.oneCell']) (by unfold maxLen; omega) (by omega) hs4 ?_; intro v9 w8 hown hgrow _; obtain ⟨ao9, cc9, rfl⟩ := own_slice hown; have hJ5 := HJ4.out.appV (xs := [x]) hgrow hown; have hB5 := HB4.out.grown hgrow hs4 (fun q e => (HJ4.out.tyV q e).1); have k3 := hJ5.o.c1; have k4 := hJ5.o.f 1; have hJ6 := hJ5.set1 (.slice ao9 (n7 + 1) cc9); have hB6 := hB5.setCell (p := ⟨p, 1, none⟩) hJ5.kp (.slice ao9 (n7 + 1) cc9); clear hown hgrow)
                 exact ⟨⟨k + 1, _, _, _, by omega, by go_num, HW, hls, hlw, hJ6, hB6⟩, by simp [intOf]; omega⟩
                ·
                 rw [if_neg tz] at hw
                 have q1 : decide (z < 0) = false := decide_eq_false tz
                 have HW := Lib.hid hw
                 clear hw
                 go_wp2_with fail
                 exact ⟨⟨k + 1, _, _, _, by omega, by go_num, HW, hJl, by rw [hn7]; omega, hJ2, hB2⟩, by simp [intOf]; omega⟩
               ·
                obtain rfl : m = k := by omega
                have hw := hH.out
                rw [List.drop_of_length_le (by rw [HM.out]; omega)] at hw
                have hFJ : FJ = (JJ, VW) := hw.symm
                subst hFJ
                clear hw hH
                obtain ⟨hf1, hf2, hf3, hf4, hf5⟩ := HFO.out.1
                have e3 := cells_keepL hB (Nat.le_refl _) _ _ x2
                go_wp2_with fail
                clear e3
                obtain ⟨i4, hy, hy0, hy1, hy2⟩ := info_parts info_eq4
                have HI4 := Lib.hid (And.intro hy (And.intro hy0 (And.intro hy1 hy2)))
                clear hy hy0 hy1 hy2 hf1 hf2 hf3 hf4 hf5
                rename (∀ (a : Act) (w : World), _ → _) => hkn
                revert hkn
                repeat (rename (∀ (a : Act) (w : World), _ → _) => hkn; clear hkn)
                repeat (rename (Exit → Act → World → Prop) => hqn; clear hqn)
                intro hkn
                go_loopw [211] (fun v211 wr => ∃ (k : Nat) (Qs : List EqR) (qw : Value), k ≤ nq ∧ v211 = .int .i64 (k : Int) ∧ Hid (Qs.map eqp = (Q.take k).map eqp) ∧ Qs.length = k ∧ JS w.heap.size w3.heap.size wr p gv vw qw gv vw qw (G ++ G') VW Qs w3.heap.size JJ ∧ Below w3.heap.size w3 wr) (fun v211 _ => nq - (intOf v211).toNat)
                case atStart => exact ⟨0, [], .slice none 0 0, by omega, rfl, rfl, rfl, hJS, hB⟩
                case round =>
                 clear hJS hB
                 obtain ⟨k, Qs, qw, hk, rfl, hQm, hQl, hJS, hB⟩ := hrel
                 by_cases hlt : k < nq
                 ·
                  have hkQ : k < Q.length := by rw [HNQ.out]; exact hlt
                  obtain ⟨b, off, rfl, c0, c1, c2, hT⟩ := (HQ.out.keep (cells_keepL hB (Nat.le_refl _))) k hkQ
                  have HTW := Lib.hid (fun w' (hb' : Below w3.heap.size w3 w') => (HQ.out.keep (cells_keepL hb' (Nat.le_refl _))) k hkQ)
                  obtain ⟨hq1, hq2⟩ := HFQ.out _ (List.getElem_mem hkQ)
                  have HQX := Lib.hid (fun x (hx : eqp x = eqp Q[k]) => takeQ hQm.out hkQ hx)
                  have HWT : Hid (∀ w', Below w3.heap.size w3 w' → TSl w' Q[k].2.2.1 Q[k].2.2.2.2) := fun w' hb' => by obtain ⟨_, _, _, _, _, _, h⟩ := HTW.out w' hb'; exact h
                  clear HTW
                  generalize Q[k] = x at c0 c1 c2 hT hq1 hq2 HQX HWT
                  obtain ⟨i, T, ta, tc, L⟩ := x
                  simp only at c0 c1 c2 hq1 hq2 HWT
                  obtain ⟨nt, hnt⟩ : ∃ n, L.length = n := ⟨_, rfl⟩
                  rw [hnt] at c2 hq1
                  have hnt64 := hq1
                  have HWR := Lib.hid hq2
                  have HNT := Lib.hid hnt
                  have HTL := HWT
                  have hbA := (Below.refl _ wr).alloc (Nat.le_refl _) (.cells #[.int .i64 i, .string T, .slice ta nt tc] 46)
                  have hQ0 := QB.new wr i T (.slice ta nt tc)
                  have hqne : some wr.heap.size ≠ qw.ownBlock := fun e => by
                   obtain ⟨_, cur, h⟩ := own_ge hJS.q _ e.symm
                   exact absurd (Array.getElem?_eq_some_iff.1 h).1 (Nat.lt_irrefl _)
                  have hqp : wr.heap.size ≠ p := fun e => by have := hJS.o.lt; omega
                  have hJ0 := hJS.alloc (.cells #[.int .i64 i, .string T, .slice ta nt tc] 46)
                  have hB0 := hB.trans (hbA.mono hB.size)
                  obtain ⟨hy, hy0, hy1, hy2⟩ := HI4.out
                  clear hkQ hnt hq1 hq2 hT hbA HWT
                  go_upto_region 54 with fail
                  clear c0 c1 c2 hB hJS
                  generalize wr.heap.size = q at hQ0 hqne hqp ⊢
                  generalize hw9 : World.alloc wr _ = w9 at hQ0 hJ0 hB0 ⊢
                  clear hw9
                  refine wp_region_held_drew (S := (fun w' => w'.cell? ⟨q, 0, none⟩ = some (.int .i64 i) ∧ w'.cell? ⟨q, 1, none⟩ = some (.string T) ∧ w'.cell? ⟨q, 2, none⟩ = some (.slice ta nt tc))) (by kernel_rfl) ⟨hQ0.c0, hQ0.c1, hQ0.c2⟩ (fun hS0 => ?_)
                  refine wpAnyH_take (i := 0) (oi := { dst := some 215, op := _, type := _, pos := _, after := _, guard := _ }) (v := .pointer (some (⟨p, 2, none⟩ : Addr))) rfl (by kernel_rfl) (by kernel_rfl) (by kernel_rfl) (fun _ _ _ h => h) (Or.inl ⟨by rfl, fun w' hSw => (by (try dsimp only at hSw); go_simp)⟩) (by assumption) ?_
                  try simp only [Act.put, List.setIfInBounds_toArray, List.set_cons_zero, List.set_cons_succ]
                  refine wpAnyH_take (i := 2) (oi := { dst := some 217, op := _, type := _, pos := _, after := _, guard := _ }) (v := .agg #[.int .i64 i, .string T, .slice ta nt tc]) rfl (by kernel_rfl) (by kernel_rfl) (by kernel_rfl) (fun _ _ _ h => h) (Or.inl ⟨by rfl, fun w' hSw => (by (try dsimp only at hSw); obtain ⟨g0, g1, g2⟩ := hSw; go_simp)⟩) (by assumption) ?_
                  try simp only [Act.put, List.setIfInBounds_toArray, List.set_cons_zero, List.set_cons_succ]
                  replace hJ0 := hJ0.drew
                  replace hQ0 : QB w9.drew q i T (.slice ta nt tc) := hQ0
                  replace hB0 := hB0.drew
                  generalize w9.drew = W0 at hS0 hJ0 hQ0 hB0 ⊢
                  refine wpAnyH_ready (rs := [1, 3]) (by kernel_rfl) (by simp) ?_
                  refine AllReadyH.cons rfl (fun K hK => ?_) (AllReadyH.cons rfl (fun K hK => ?_) AllReadyH.nil)
                  ·
                   rw [if_pos (by rfl)]
                   have hl := hJ0.o.c2
                   go_simp
                   refine hK.out _ _ ⟨hQ0.c0, hQ0.c1, hQ0.c2⟩ (fun hT => ?_)
                   clear hK hT hl
                   try simp only [Act.put, List.setIfInBounds_toArray, List.set_cons_zero, List.set_cons_succ]
                   refine wpAnyH_ready (rs := [3]) (by kernel_rfl) (by simp) ?_
                   refine AllReadyH.cons rfl (fun K hK => ?_) AllReadyH.nil
                   rw [if_pos (by rfl)]
                   go_simp
                   go_at_call 44
                   refine (cloned0_any i 0 T ta nt tc L _ (HTL.out _ hB0) HNT.out hnt64 HWR.out).mono ?_; rintro e W1 ⟨ao, c', rfl, ht1, hu1, bn⟩
                   try simp only [Int.add_zero]
                   have hJ1 := hJ0.below bn
                   have hQ1 := hQ0.below bn hQ0.lt
                   have hB1 := hB0.trans (bn.mono hB0.size)
                   refine hK.out _ _ ⟨hQ1.c0, hQ1.c1, hQ1.c2⟩ (fun hT => ?_)
                   clear hK hT bn
                   try simp only [Act.put, List.setIfInBounds_toArray, List.set_cons_zero, List.set_cons_succ]
                   refine wpAnyH_ready (rs := [4]) (by kernel_rfl) (by simp) ?_
                   refine AllReadyH.cons rfl (fun K hK => ?_) AllReadyH.nil
                   rw [if_pos (by rfl)]
                   go_simp
                   have bn := (Below.refl _ W1).alloc (Nat.le_refl _) (.cells #[.int .i64 i, .string T, .slice ao nt c'] 46)
                   have hN2 := QB.new W1 i T (.slice ao nt c')
                   have hJ2 := hJ1.alloc (.cells #[.int .i64 i, .string T, .slice ao nt c'] 46)
                   have hQ2 := hQ1.below bn hQ1.lt
                   have hB2 := hB1.trans (bn.mono hB1.size)
                   have ht2 := ht1.keep (cells_keepL bn (Nat.le_refl _))
                   have hu2 := hu1.belowJ bn
                   refine hK.out _ _ ⟨hQ2.c0, hQ2.c1, hQ2.c2⟩ (fun hT => ?_)
                   clear hK hT bn ht1 hu1
                   try simp only [Act.put, List.setIfInBounds_toArray, List.set_cons_zero, List.set_cons_succ]
                   generalize W1.heap.size = r at hN2 ⊢
                   generalize hw : World.alloc W1 _ = W2 at hN2 hJ2 hQ2 hB2 ht2 hu2 ⊢
                   clear hw
                   refine wpAnyH_ready (rs := [5]) (by kernel_rfl) (by simp) ?_
                   refine AllReadyH.cons rfl (fun K hK => ?_) AllReadyH.nil
                   rw [if_pos (by rfl)]
                   have hov := hJ2.q
                   rw [hQl] at hov
                   refine wp_append_own _ (.tmp 216) (.tmp 219) 47 (by rfl) w3.heap.size 46 i4 (.agg #[.int .i64 0, .string ⟨#[]⟩, .slice none 0 0]) 3 48 Tryz.underlying47 hy hy0 hy1 hy2 rfl (by decide) qw k (qcl Qs) (by rfl) hov ⟨r, 0, none⟩ 1 1 [.int .i64 i, .string T, .slice ao nt c'] (by rfl) rfl (threeL hN2.c0 hN2.c1 hN2.c2) (by simp [Value.oneCell']) (by unfold maxLen; omega) (by omega) hB2.size ?_
                   intro qv W3 ho hg _
                   obtain ⟨qo, qc9, rfl⟩ := own_slice ho
                   rw [show [Value.int .i64 i, .string T, .slice ao nt c'] = qcl [(i, T, ao, c', L)] by simp [qcl, HNT.out]] at ho
                   have hJ3 := hJ2.appQ (xs := [(i, T, ao, c', L)]) hg ho (fun x hx => by rw [List.mem_singleton] at hx; subst hx; exact ⟨ht2, fun b off _ he => .inr (hu2 b off he)⟩)
                   have hQ3 : QB W3 q i T (.slice ta nt tc) := (hg.block q hQ2.lt (fun e => hqne e)).trans hQ2
                   have hB3 := hB2.grown hg hB2.size (fun q e => (hJ2.tyQ q e).1)
                   refine hK.out _ _ ⟨hQ3.c0, hQ3.c1, hQ3.c2⟩ (fun hT => ?_)
                   clear hK hT hg ho hov
                   try simp only [Act.put, List.setIfInBounds_toArray]
                   have hT := (⟨hQ3.c0, hQ3.c1, hQ3.c2⟩ : W3.cell? ⟨q, 0, none⟩ = some (.int .i64 i) ∧ W3.cell? ⟨q, 1, none⟩ = some (.string T) ∧ W3.cell? ⟨q, 2, none⟩ = some (.slice ta nt tc))
                   refine wpAnyH_take (i := 6) (oi := { dst := some 221, op := _, type := _, pos := _, after := _, guard := _ }) (v := .pointer (some (⟨p, 2, none⟩ : Addr))) rfl (by kernel_rfl) (by kernel_rfl) (by kernel_rfl) (fun _ _ _ h => h) (Or.inl ⟨by rfl, fun w' hSw => (by (try dsimp only at hSw); go_simp)⟩) (by assumption) ?_
                   try simp only [Act.put]
                   clear hT
                   refine wpAnyH_ready (rs := [7]) (by kernel_rfl) (by simp) ?_
                   refine AllReadyH.cons rfl (fun K hK => ?_) AllReadyH.nil
                   rw [if_pos (by rfl)]
                   have hc2 := hJ3.o.c2
                   have hf2 := hJ3.o.f 2
                   go_simp
                   have hJ4 := hJ3.set2 (.slice qo (k + 1) qc9)
                   have hB4 := hB3.setCell (p := ⟨p, 2, none⟩) hJ3.kp (.slice qo (k + 1) qc9)
                   have hQ4 : QB (World.setCell W3 ⟨p, 2, none⟩ (.slice qo (k + 1) qc9)) q i T (.slice ta nt tc) := (Below.heap_setCell _ _ _ q hqp).trans hQ3
                   refine hK.out _ _ ⟨hQ4.c0, hQ4.c1, hQ4.c2⟩ (fun hT => ?_)
                   clear hK hT hc2 hf2
                   try simp only [Act.put, List.setIfInBounds_toArray, List.set_cons_zero, List.set_cons_succ]
                   refine wpAnyH_done (by kernel_rfl) ?_ _
                   clear hJ3 hQ3 hB3 hQ4 
                   go_wp2_with fail
                   exact ⟨⟨k + 1, Qs ++ [(i, T, ao, c', L)], _, by omega, by go_num, HQX.out _ rfl, by rw [List.length_append, List.length_singleton, hQl], hJ4, hB4⟩, by simp [intOf]; omega⟩
                  ·
                   rw [if_pos (by rfl)]
                   go_simp
                   go_at_call 44
                   refine (cloned0_any i 0 T ta nt tc L _ (HTL.out _ hB0) HNT.out hnt64 HWR.out).mono ?_; rintro e W1 ⟨ao, c', rfl, ht1, hu1, bn⟩
                   try simp only [Int.add_zero]
                   have hJ1 := hJ0.below bn
                   have hQ1 := hQ0.below bn hQ0.lt
                   have hB1 := hB0.trans (bn.mono hB0.size)
                   refine hK.out _ _ ⟨hQ1.c0, hQ1.c1, hQ1.c2⟩ (fun hT => ?_)
                   clear hK hT bn
                   try simp only [Act.put, List.setIfInBounds_toArray, List.set_cons_zero, List.set_cons_succ]
                   refine wpAnyH_ready (rs := [1, 4]) (by kernel_rfl) (by simp) ?_
                   refine AllReadyH.cons rfl (fun K hK => ?_) (AllReadyH.cons rfl (fun K hK => ?_) AllReadyH.nil)
                   ·
                    rw [if_pos (by rfl)]
                    have hl := hJ1.o.c2
                    go_simp
                    refine hK.out _ _ ⟨hQ1.c0, hQ1.c1, hQ1.c2⟩ (fun hT => ?_)
                    clear hK hT hl
                    try simp only [Act.put, List.setIfInBounds_toArray, List.set_cons_zero, List.set_cons_succ]
                    refine wpAnyH_ready (rs := [4]) (by kernel_rfl) (by simp) ?_
                    refine AllReadyH.cons rfl (fun K hK => ?_) AllReadyH.nil
                    rw [if_pos (by rfl)]
                    go_simp
                    have bn := (Below.refl _ W1).alloc (Nat.le_refl _) (.cells #[.int .i64 i, .string T, .slice ao nt c'] 46)
                    have hN2 := QB.new W1 i T (.slice ao nt c')
                    have hJ2 := hJ1.alloc (.cells #[.int .i64 i, .string T, .slice ao nt c'] 46)
                    have hQ2 := hQ1.below bn hQ1.lt
                    have hB2 := hB1.trans (bn.mono hB1.size)
                    have ht2 := ht1.keep (cells_keepL bn (Nat.le_refl _))
                    have hu2 := hu1.belowJ bn
                    refine hK.out _ _ ⟨hQ2.c0, hQ2.c1, hQ2.c2⟩ (fun hT => ?_)
                    clear hK hT bn ht1 hu1
                    try simp only [Act.put, List.setIfInBounds_toArray, List.set_cons_zero, List.set_cons_succ]
                    generalize W1.heap.size = r at hN2 ⊢
                    generalize hw : World.alloc W1 _ = W2 at hN2 hJ2 hQ2 hB2 ht2 hu2 ⊢
                    clear hw
                    refine wpAnyH_ready (rs := [5]) (by kernel_rfl) (by simp) ?_
                    refine AllReadyH.cons rfl (fun K hK => ?_) AllReadyH.nil
                    rw [if_pos (by rfl)]
                    have hov := hJ2.q
                    rw [hQl] at hov
                    refine wp_append_own _ (.tmp 216) (.tmp 219) 47 (by rfl) w3.heap.size 46 i4 (.agg #[.int .i64 0, .string ⟨#[]⟩, .slice none 0 0]) 3 48 Tryz.underlying47 hy hy0 hy1 hy2 rfl (by decide) qw k (qcl Qs) (by rfl) hov ⟨r, 0, none⟩ 1 1 [.int .i64 i, .string T, .slice ao nt c'] (by rfl) rfl (threeL hN2.c0 hN2.c1 hN2.c2) (by simp [Value.oneCell']) (by unfold maxLen; omega) (by omega) hB2.size ?_
                    intro qv W3 ho hg _
                    obtain ⟨qo, qc9, rfl⟩ := own_slice ho
                    rw [show [Value.int .i64 i, .string T, .slice ao nt c'] = qcl [(i, T, ao, c', L)] by simp [qcl, HNT.out]] at ho
                    have hJ3 := hJ2.appQ (xs := [(i, T, ao, c', L)]) hg ho (fun x hx => by rw [List.mem_singleton] at hx; subst hx; exact ⟨ht2, fun b off _ he => .inr (hu2 b off he)⟩)
                    have hQ3 : QB W3 q i T (.slice ta nt tc) := (hg.block q hQ2.lt (fun e => hqne e)).trans hQ2
                    have hB3 := hB2.grown hg hB2.size (fun q e => (hJ2.tyQ q e).1)
                    refine hK.out _ _ ⟨hQ3.c0, hQ3.c1, hQ3.c2⟩ (fun hT => ?_)
                    clear hK hT hg ho hov
                    try simp only [Act.put, List.setIfInBounds_toArray]
                    have hT := (⟨hQ3.c0, hQ3.c1, hQ3.c2⟩ : W3.cell? ⟨q, 0, none⟩ = some (.int .i64 i) ∧ W3.cell? ⟨q, 1, none⟩ = some (.string T) ∧ W3.cell? ⟨q, 2, none⟩ = some (.slice ta nt tc))
                    refine wpAnyH_take (i := 6) (oi := { dst := some 221, op := _, type := _, pos := _, after := _, guard := _ }) (v := .pointer (some (⟨p, 2, none⟩ : Addr))) rfl (by kernel_rfl) (by kernel_rfl) (by kernel_rfl) (fun _ _ _ h => h) (Or.inl ⟨by rfl, fun w' hSw => (by (try dsimp only at hSw); go_simp)⟩) (by assumption) ?_
                    try simp only [Act.put]
                    clear hT
                    refine wpAnyH_ready (rs := [7]) (by kernel_rfl) (by simp) ?_
                    refine AllReadyH.cons rfl (fun K hK => ?_) AllReadyH.nil
                    rw [if_pos (by rfl)]
                    have hc2 := hJ3.o.c2
                    have hf2 := hJ3.o.f 2
                    go_simp
                    have hJ4 := hJ3.set2 (.slice qo (k + 1) qc9)
                    have hB4 := hB3.setCell (p := ⟨p, 2, none⟩) hJ3.kp (.slice qo (k + 1) qc9)
                    have hQ4 : QB (World.setCell W3 ⟨p, 2, none⟩ (.slice qo (k + 1) qc9)) q i T (.slice ta nt tc) := (Below.heap_setCell _ _ _ q hqp).trans hQ3
                    refine hK.out _ _ ⟨hQ4.c0, hQ4.c1, hQ4.c2⟩ (fun hT => ?_)
                    clear hK hT hc2 hf2
                    try simp only [Act.put, List.setIfInBounds_toArray, List.set_cons_zero, List.set_cons_succ]
                    refine wpAnyH_done (by kernel_rfl) ?_ _
                    clear hJ3 hQ3 hB3 hQ4 
                    go_wp2_with fail
                    exact ⟨⟨k + 1, Qs ++ [(i, T, ao, c', L)], _, by omega, by go_num, HQX.out _ rfl, by rw [List.length_append, List.length_singleton, hQl], hJ4, hB4⟩, by simp [intOf]; omega⟩
                   ·
                    rw [if_pos (by rfl)]
                    go_simp
                    have bn := (Below.refl _ W1).alloc (Nat.le_refl _) (.cells #[.int .i64 i, .string T, .slice ao nt c'] 46)
                    have hN2 := QB.new W1 i T (.slice ao nt c')
                    have hJ2 := hJ1.alloc (.cells #[.int .i64 i, .string T, .slice ao nt c'] 46)
                    have hQ2 := hQ1.below bn hQ1.lt
                    have hB2 := hB1.trans (bn.mono hB1.size)
                    have ht2 := ht1.keep (cells_keepL bn (Nat.le_refl _))
                    have hu2 := hu1.belowJ bn
                    refine hK.out _ _ ⟨hQ2.c0, hQ2.c1, hQ2.c2⟩ (fun hT => ?_)
                    clear hK hT bn ht1 hu1
                    try simp only [Act.put, List.setIfInBounds_toArray, List.set_cons_zero, List.set_cons_succ]
                    generalize W1.heap.size = r at hN2 ⊢
                    generalize hw : World.alloc W1 _ = W2 at hN2 hJ2 hQ2 hB2 ht2 hu2 ⊢
                    clear hw
                    refine wpAnyH_ready (rs := [1]) (by kernel_rfl) (by simp) ?_
                    refine AllReadyH.cons rfl (fun K hK => ?_) AllReadyH.nil
                    rw [if_pos (by rfl)]
                    have hl := hJ2.o.c2
                    go_simp
                    refine hK.out _ _ ⟨hQ2.c0, hQ2.c1, hQ2.c2⟩ (fun hT => ?_)
                    clear hK hT hl
                    try simp only [Act.put, List.setIfInBounds_toArray, List.set_cons_zero, List.set_cons_succ]
                    refine wpAnyH_ready (rs := [5]) (by kernel_rfl) (by simp) ?_
                    refine AllReadyH.cons rfl (fun K hK => ?_) AllReadyH.nil
                    rw [if_pos (by rfl)]
                    have hov := hJ2.q
                    rw [hQl] at hov
                    refine wp_append_own _ (.tmp 216) (.tmp 219) 47 (by rfl) w3.heap.size 46 i4 (.agg #[.int .i64 0, .string ⟨#[]⟩, .slice none 0 0]) 3 48 Tryz.underlying47 hy hy0 hy1 hy2 rfl (by decide) qw k (qcl Qs) (by rfl) hov ⟨r, 0, none⟩ 1 1 [.int .i64 i, .string T, .slice ao nt c'] (by rfl) rfl (threeL hN2.c0 hN2.c1 hN2.c2) (by simp [Value.oneCell']) (by unfold maxLen; omega) (by omega) hB2.size ?_
                    intro qv W3 ho hg _
                    obtain ⟨qo, qc9, rfl⟩ := own_slice ho
                    rw [show [Value.int .i64 i, .string T, .slice ao nt c'] = qcl [(i, T, ao, c', L)] by simp [qcl, HNT.out]] at ho
                    have hJ3 := hJ2.appQ (xs := [(i, T, ao, c', L)]) hg ho (fun x hx => by rw [List.mem_singleton] at hx; subst hx; exact ⟨ht2, fun b off _ he => .inr (hu2 b off he)⟩)
                    have hQ3 : QB W3 q i T (.slice ta nt tc) := (hg.block q hQ2.lt (fun e => hqne e)).trans hQ2
                    have hB3 := hB2.grown hg hB2.size (fun q e => (hJ2.tyQ q e).1)
                    refine hK.out _ _ ⟨hQ3.c0, hQ3.c1, hQ3.c2⟩ (fun hT => ?_)
                    clear hK hT hg ho hov
                    try simp only [Act.put, List.setIfInBounds_toArray]
                    have hT := (⟨hQ3.c0, hQ3.c1, hQ3.c2⟩ : W3.cell? ⟨q, 0, none⟩ = some (.int .i64 i) ∧ W3.cell? ⟨q, 1, none⟩ = some (.string T) ∧ W3.cell? ⟨q, 2, none⟩ = some (.slice ta nt tc))
                    refine wpAnyH_take (i := 6) (oi := { dst := some 221, op := _, type := _, pos := _, after := _, guard := _ }) (v := .pointer (some (⟨p, 2, none⟩ : Addr))) rfl (by kernel_rfl) (by kernel_rfl) (by kernel_rfl) (fun _ _ _ h => h) (Or.inl ⟨by rfl, fun w' hSw => (by (try dsimp only at hSw); go_simp)⟩) (by assumption) ?_
                    try simp only [Act.put]
                    clear hT
                    refine wpAnyH_ready (rs := [7]) (by kernel_rfl) (by simp) ?_
                    refine AllReadyH.cons rfl (fun K hK => ?_) AllReadyH.nil
                    rw [if_pos (by rfl)]
                    have hc2 := hJ3.o.c2
                    have hf2 := hJ3.o.f 2
                    go_simp
                    have hJ4 := hJ3.set2 (.slice qo (k + 1) qc9)
                    have hB4 := hB3.setCell (p := ⟨p, 2, none⟩) hJ3.kp (.slice qo (k + 1) qc9)
                    have hQ4 : QB (World.setCell W3 ⟨p, 2, none⟩ (.slice qo (k + 1) qc9)) q i T (.slice ta nt tc) := (Below.heap_setCell _ _ _ q hqp).trans hQ3
                    refine hK.out _ _ ⟨hQ4.c0, hQ4.c1, hQ4.c2⟩ (fun hT => ?_)
                    clear hK hT hc2 hf2
                    try simp only [Act.put, List.setIfInBounds_toArray, List.set_cons_zero, List.set_cons_succ]
                    refine wpAnyH_done (by kernel_rfl) ?_ _
                    clear hJ3 hQ3 hB3 hQ4 
                    go_wp2_with fail
                    exact ⟨⟨k + 1, Qs ++ [(i, T, ao, c', L)], _, by omega, by go_num, HQX.out _ rfl, by rw [List.length_append, List.length_singleton, hQl], hJ4, hB4⟩, by simp [intOf]; omega⟩
                 ·
                  obtain rfl : nq = k := by omega
                  have HQ1 : Hid (Qs.map eqp = SA.Q) := by
                   show _ = _
                   rw [hQm.out, HPA.out.2.2, List.take_of_length_le (by rw [HNQ.out]; omega)]
                  clear hQm
                  have e3 := cells_keepL hB (Nat.le_refl _) _ _ y2
                  have H8 : Hid (Qs.map eqp = SA.Q ++ (Q'.take 0).map (fun q => jQ ng JJ (eqp q))) := by
                   show _ = _
                   rw [HQ1.out]; simp
                  have hQl8 : Qs.length = nq + 0 := hQl
                  go_wp2_with fail
                  clear e3 HQ1
                  rename (∀ (a : Act) (w : World), _ → _) => hkn
                  revert hkn
                  repeat (rename (∀ (a : Act) (w : World), _ → _) => hkn; clear hkn)
                  repeat (rename (Exit → Act → World → Prop) => hqn; clear hqn)
                  intro hkn
                  go_loopw [226] (fun v226 wr => ∃ (k : Nat) (Qs : List EqR) (qw : Value), k ≤ mq ∧ v226 = .int .i64 (k : Int) ∧ Hid (Qs.map eqp = SA.Q ++ (Q'.take k).map (fun q => jQ ng JJ (eqp q))) ∧ Qs.length = nq + k ∧ JS w.heap.size w3.heap.size wr p gv vw qw gv vw qw (G ++ G') VW Qs w3.heap.size JJ ∧ Below w3.heap.size w3 wr) (fun v226 _ => mq - (intOf v226).toNat)
                  case atStart => exact ⟨0, Qs, qw, by omega, rfl, H8, hQl8, hJS, hB⟩
                  case round =>
                   clear hJS hB H8 hQl8 hQl
                   obtain ⟨k, Qs, qw, hk, rfl, hQm, hQl, hJS, hB⟩ := hrel
                   by_cases hlt : k < mq
                   ·
                    have hkQ : k < Q'.length := by rw [HMQ.out]; exact hlt
                    obtain ⟨b, off, rfl, c0, c1, c2, hT⟩ := (HQ'.out.keep (cells_keepL hB (Nat.le_refl _))) k hkQ
                    have HTW := Lib.hid (fun w' (hb' : Below w3.heap.size w3 w') => (HQ'.out.keep (cells_keepL hb' (Nat.le_refl _))) k hkQ)
                    obtain ⟨hq1, hq2, hq3⟩ := HFQ'.out _ (List.getElem_mem hkQ)
                    have HQX := Lib.hid (fun x (hx : eqp x = jQ ng JJ (eqp Q'[k])) => takeJ hQm.out hkQ hx)
                    have HWT : Hid (∀ w', Below w3.heap.size w3 w' → TSl w' Q'[k].2.2.1 Q'[k].2.2.2.2) := fun w' hb' => by obtain ⟨_, _, _, _, _, _, h⟩ := HTW.out w' hb'; exact h
                    clear HTW
                    generalize Q'[k] = x at c0 c1 c2 hT hq1 hq2 hq3 HQX HWT
                    obtain ⟨i, T, ta, tc, L⟩ := x
                    simp only at c0 c1 c2 hq1 hq2 hq3 HWT
                    obtain ⟨nt, hnt⟩ : ∃ n, L.length = n := ⟨_, rfl⟩
                    rw [hnt] at c2 hq1
                    have hnt64 := hq1
                    have HWR := Lib.hid hq2
                    have HVR := Lib.hid hq3
                    have HNT := Lib.hid hnt
                    have HTL := HWT
                    have hbA := (Below.refl _ wr).alloc (Nat.le_refl _) (.cells #[.int .i64 i, .string T, .slice ta nt tc] 46)
                    have hQ0 := QB.new wr i T (.slice ta nt tc)
                    have hqne : some wr.heap.size ≠ qw.ownBlock := fun e => by
                     obtain ⟨_, cur, h⟩ := own_ge hJS.q _ e.symm
                     exact absurd (Array.getElem?_eq_some_iff.1 h).1 (Nat.lt_irrefl _)
                    have hqp : wr.heap.size ≠ p := fun e => by have := hJS.o.lt; omega
                    have hJ0 := hJS.alloc (.cells #[.int .i64 i, .string T, .slice ta nt tc] 46)
                    have hB0 := hB.trans (hbA.mono hB.size)
                    obtain ⟨hy, hy0, hy1, hy2⟩ := HI4.out
                    clear hkQ hnt hq1 hq2 hq3 hT hbA HWT
                    go_upto_region 59 with fail
                    clear c0 c1 c2 hB hJS
                    generalize wr.heap.size = q at hQ0 hqne hqp ⊢
                    generalize hw9 : World.alloc wr _ = w9 at hQ0 hJ0 hB0 ⊢
                    clear hw9
                    refine wp_region_held_drew (S := (fun w' => w'.cell? ⟨q, 0, none⟩ = some (.int .i64 i) ∧ w'.cell? ⟨q, 1, none⟩ = some (.string T) ∧ w'.cell? ⟨q, 2, none⟩ = some (.slice ta nt tc) ∧ w'.cell? ⟨w.heap.size, 0, none⟩ = some (.slice ga ng gc))) (by kernel_rfl) ⟨hQ0.c0, hQ0.c1, hQ0.c2, cells_keepL hB0 (Nat.le_refl _) _ _ x0⟩ (fun hS0 => ?_)
                    refine wpAnyH_take (i := 0) (oi := { dst := some 230, op := _, type := _, pos := _, after := _, guard := _ }) (v := .pointer (some (⟨p, 2, none⟩ : Addr))) rfl (by kernel_rfl) (by kernel_rfl) (by kernel_rfl) (fun _ _ _ h => h) (Or.inl ⟨by rfl, fun w' hSw => (by (try dsimp only at hSw); go_simp)⟩) (by assumption) ?_
                    try simp only [Act.put, List.setIfInBounds_toArray, List.set_cons_zero, List.set_cons_succ]
                    refine wpAnyH_take (i := 2) (oi := { dst := some 232, op := _, type := _, pos := _, after := _, guard := _ }) (v := .agg #[.int .i64 i, .string T, .slice ta nt tc]) rfl (by kernel_rfl) (by kernel_rfl) (by kernel_rfl) (fun _ _ _ h => h) (Or.inl ⟨by rfl, fun w' hSw => (by (try dsimp only at hSw); obtain ⟨g0, g1, g2, g3⟩ := hSw; go_simp)⟩) (by assumption) ?_
                    try simp only [Act.put, List.setIfInBounds_toArray, List.set_cons_zero, List.set_cons_succ]
                    refine wpAnyH_take (i := 3) (oi := { dst := some 233, op := _, type := _, pos := _, after := _, guard := _ }) (v := .pointer (some (⟨w.heap.size, 0, none⟩ : Addr))) rfl (by kernel_rfl) (by kernel_rfl) (by kernel_rfl) (fun _ _ _ h => h) (Or.inl ⟨by rfl, fun w' hSw => (by (try dsimp only at hSw); go_simp)⟩) (by assumption) ?_
                    try simp only [Act.put, List.setIfInBounds_toArray, List.set_cons_zero, List.set_cons_succ]
                    refine wpAnyH_take (i := 4) (oi := { dst := some 234, op := _, type := _, pos := _, after := _, guard := _ }) (v := .slice ga ng gc) rfl (by kernel_rfl) (by kernel_rfl) (by kernel_rfl) (fun _ _ _ h => h) (Or.inl ⟨by rfl, fun w' hSw => (by (try dsimp only at hSw); obtain ⟨g0, g1, g2, g3⟩ := hSw; go_simp)⟩) (by assumption) ?_
                    try simp only [Act.put, List.setIfInBounds_toArray, List.set_cons_zero, List.set_cons_succ]
                    refine wpAnyH_take (i := 5) (oi := { dst := some 235, op := _, type := _, pos := _, after := _, guard := _ }) (v := .int .i64 (ng : Int)) rfl (by kernel_rfl) (by kernel_rfl) (by kernel_rfl) (fun _ _ _ h => h) (Or.inl ⟨by rfl, fun w' hSw => (by (try dsimp only at hSw); go_simp)⟩) (by assumption) ?_
                    try simp only [Act.put, List.setIfInBounds_toArray, List.set_cons_zero, List.set_cons_succ]
                    refine wpAnyH_take (i := 6) (oi := { dst := some 236, op := _, type := _, pos := _, after := _, guard := _ }) (v := .slice (some ⟨w3.heap.size, 0, none⟩) m m) rfl (by kernel_rfl) (by kernel_rfl) (by kernel_rfl) (fun _ _ _ h => h) (Or.inl ⟨by rfl, fun w' hSw => (by (try dsimp only at hSw); go_simp)⟩) (by assumption) ?_
                    try simp only [Act.put, List.setIfInBounds_toArray, List.set_cons_zero, List.set_cons_succ]
                    replace hJ0 := hJ0.drew
                    replace hQ0 : QB w9.drew q i T (.slice ta nt tc) := hQ0
                    replace hB0 := hB0.drew
                    generalize w9.drew = W0 at hS0 hJ0 hQ0 hB0 ⊢
                    refine wpAnyH_ready (rs := [1, 7]) (by kernel_rfl) (by simp) ?_
                    refine AllReadyH.cons rfl (fun K hK => ?_) (AllReadyH.cons rfl (fun K hK => ?_) AllReadyH.nil)
                    ·
                     rw [if_pos (by rfl)]
                     have hl := hJ0.o.c2
                     go_simp
                     refine hK.out _ _ ⟨hQ0.c0, hQ0.c1, hQ0.c2, cells_keepL hB0 (Nat.le_refl _) _ _ x0⟩ (fun hT => ?_)
                     clear hK hT hl
                     try simp only [Act.put, List.setIfInBounds_toArray, List.set_cons_zero, List.set_cons_succ]
                     refine wpAnyH_ready (rs := [7]) (by kernel_rfl) (by simp) ?_
                     refine AllReadyH.cons rfl (fun K hK => ?_) AllReadyH.nil
                     rw [if_pos (by rfl)]
                     go_simp
                     go_at_call 44
                     refine (clonedV_any JJ (some ⟨w3.heap.size, 0, none⟩) m m i (ng : Int) T ta nt tc L _ (HTL.out _ hB0) HNT.out hnt64 HWR.out hJ0.LI hJl (by unfold maxLen; omega) HVR.out).mono ?_; rintro e W1 ⟨ao, c', rfl, ht1, hu1, bn⟩
                     have hJ1 := hJ0.below bn
                     have hQ1 := hQ0.below bn hQ0.lt
                     have hB1 := hB0.trans (bn.mono hB0.size)
                     refine hK.out _ _ ⟨hQ1.c0, hQ1.c1, hQ1.c2, cells_keepL hB1 (Nat.le_refl _) _ _ x0⟩ (fun hT => ?_)
                     clear hK hT bn
                     try simp only [Act.put, List.setIfInBounds_toArray, List.set_cons_zero, List.set_cons_succ]
                     refine wpAnyH_ready (rs := [8]) (by kernel_rfl) (by simp) ?_
                     refine AllReadyH.cons rfl (fun K hK => ?_) AllReadyH.nil
                     rw [if_pos (by rfl)]
                     go_simp
                     have bn := (Below.refl _ W1).alloc (Nat.le_refl _) (.cells #[.int .i64 (i + (ng : Int)), .string T, .slice ao nt c'] 46)
                     have hN2 := QB.new W1 (i + (ng : Int)) T (.slice ao nt c')
                     have hJ2 := hJ1.alloc (.cells #[.int .i64 (i + (ng : Int)), .string T, .slice ao nt c'] 46)
                     have hQ2 := hQ1.below bn hQ1.lt
                     have hB2 := hB1.trans (bn.mono hB1.size)
                     have ht2 := ht1.keep (cells_keepL bn (Nat.le_refl _))
                     have hu2 := hu1.belowJ bn
                     refine hK.out _ _ ⟨hQ2.c0, hQ2.c1, hQ2.c2, cells_keepL hB2 (Nat.le_refl _) _ _ x0⟩ (fun hT => ?_)
                     clear hK hT bn ht1 hu1
                     try simp only [Act.put, List.setIfInBounds_toArray, List.set_cons_zero, List.set_cons_succ]
                     generalize W1.heap.size = r at hN2 ⊢
                     generalize hw : World.alloc W1 _ = W2 at hN2 hJ2 hQ2 hB2 ht2 hu2 ⊢
                     clear hw
                     refine wpAnyH_ready (rs := [9]) (by kernel_rfl) (by simp) ?_
                     refine AllReadyH.cons rfl (fun K hK => ?_) AllReadyH.nil
                     rw [if_pos (by rfl)]
                     have hov := hJ2.q
                     rw [hQl] at hov
                     refine wp_append_own _ (.tmp 231) (.tmp 238) 47 (by rfl) w3.heap.size 46 i4 (.agg #[.int .i64 0, .string ⟨#[]⟩, .slice none 0 0]) 3 48 Tryz.underlying47 hy hy0 hy1 hy2 rfl (by decide) qw (nq + k) (qcl Qs) (by rfl) hov ⟨r, 0, none⟩ 1 1 [.int .i64 (i + (ng : Int)), .string T, .slice ao nt c'] (by rfl) rfl (threeL hN2.c0 hN2.c1 hN2.c2) (by simp [Value.oneCell']) (by unfold maxLen; omega) (by omega) hB2.size ?_
                     intro qv W3 ho hg _
                     obtain ⟨qo, qc9, rfl⟩ := own_slice ho
                     rw [show [Value.int .i64 (i + (ng : Int)), .string T, .slice ao nt c'] = qcl [((i + (ng : Int)), T, ao, c', L.map (clT JJ))] by simp [qcl, HNT.out]] at ho
                     have hJ3 := hJ2.appQ (xs := [((i + (ng : Int)), T, ao, c', L.map (clT JJ))]) hg ho (fun x hx => by rw [List.mem_singleton] at hx; subst hx; exact ⟨ht2, fun b off _ he => .inr (hu2 b off he)⟩)
                     have hQ3 : QB W3 q i T (.slice ta nt tc) := (hg.block q hQ2.lt (fun e => hqne e)).trans hQ2
                     have hB3 := hB2.grown hg hB2.size (fun q e => (hJ2.tyQ q e).1)
                     refine hK.out _ _ ⟨hQ3.c0, hQ3.c1, hQ3.c2, cells_keepL hB3 (Nat.le_refl _) _ _ x0⟩ (fun hT => ?_)
                     clear hK hT hg ho hov
                     try simp only [Act.put, List.setIfInBounds_toArray]
                     have hT := (⟨hQ3.c0, hQ3.c1, hQ3.c2, cells_keepL hB3 (Nat.le_refl _) _ _ x0⟩ : W3.cell? ⟨q, 0, none⟩ = some (.int .i64 i) ∧ W3.cell? ⟨q, 1, none⟩ = some (.string T) ∧ W3.cell? ⟨q, 2, none⟩ = some (.slice ta nt tc) ∧ W3.cell? ⟨w.heap.size, 0, none⟩ = some (.slice ga ng gc))
                     refine wpAnyH_take (i := 10) (oi := { dst := some 240, op := _, type := _, pos := _, after := _, guard := _ }) (v := .pointer (some (⟨p, 2, none⟩ : Addr))) rfl (by kernel_rfl) (by kernel_rfl) (by kernel_rfl) (fun _ _ _ h => h) (Or.inl ⟨by rfl, fun w' hSw => (by (try dsimp only at hSw); go_simp)⟩) (by assumption) ?_
                     try simp only [Act.put]
                     clear hT
                     refine wpAnyH_ready (rs := [11]) (by kernel_rfl) (by simp) ?_
                     refine AllReadyH.cons rfl (fun K hK => ?_) AllReadyH.nil
                     rw [if_pos (by rfl)]
                     have hc2 := hJ3.o.c2
                     have hf2 := hJ3.o.f 2
                     go_simp
                     have hJ4 := hJ3.set2 (.slice qo (nq + k + 1) qc9)
                     have hB4 := hB3.setCell (p := ⟨p, 2, none⟩) hJ3.kp (.slice qo (nq + k + 1) qc9)
                     have hQ4 : QB (World.setCell W3 ⟨p, 2, none⟩ (.slice qo (nq + k + 1) qc9)) q i T (.slice ta nt tc) := (Below.heap_setCell _ _ _ q hqp).trans hQ3
                     refine hK.out _ _ ⟨hQ4.c0, hQ4.c1, hQ4.c2, cells_keepL hB4 (Nat.le_refl _) _ _ x0⟩ (fun hT => ?_)
                     clear hK hT hc2 hf2
                     try simp only [Act.put, List.setIfInBounds_toArray, List.set_cons_zero, List.set_cons_succ]
                     refine wpAnyH_done (by kernel_rfl) ?_ _
                     clear hJ3 hQ3 hB3 hQ4 
                     go_wp2_with fail
                     exact ⟨⟨k + 1, Qs ++ [((i + (ng : Int)), T, ao, c', L.map (clT JJ))], _, by omega, by go_num, HQX.out _ rfl, by rw [List.length_append, List.length_singleton, hQl]; omega, hJ4, hB4⟩, by simp [intOf]; omega⟩
                    ·
                     rw [if_pos (by rfl)]
                     go_simp
                     go_at_call 44
                     refine (clonedV_any JJ (some ⟨w3.heap.size, 0, none⟩) m m i (ng : Int) T ta nt tc L _ (HTL.out _ hB0) HNT.out hnt64 HWR.out hJ0.LI hJl (by unfold maxLen; omega) HVR.out).mono ?_; rintro e W1 ⟨ao, c', rfl, ht1, hu1, bn⟩
                     have hJ1 := hJ0.below bn
                     have hQ1 := hQ0.below bn hQ0.lt
                     have hB1 := hB0.trans (bn.mono hB0.size)
                     refine hK.out _ _ ⟨hQ1.c0, hQ1.c1, hQ1.c2, cells_keepL hB1 (Nat.le_refl _) _ _ x0⟩ (fun hT => ?_)
                     clear hK hT bn
                     try simp only [Act.put, List.setIfInBounds_toArray, List.set_cons_zero, List.set_cons_succ]
                     refine wpAnyH_ready (rs := [1, 8]) (by kernel_rfl) (by simp) ?_
                     refine AllReadyH.cons rfl (fun K hK => ?_) (AllReadyH.cons rfl (fun K hK => ?_) AllReadyH.nil)
                     ·
                      rw [if_pos (by rfl)]
                      have hl := hJ1.o.c2
                      go_simp
                      refine hK.out _ _ ⟨hQ1.c0, hQ1.c1, hQ1.c2, cells_keepL hB1 (Nat.le_refl _) _ _ x0⟩ (fun hT => ?_)
                      clear hK hT hl
                      try simp only [Act.put, List.setIfInBounds_toArray, List.set_cons_zero, List.set_cons_succ]
                      refine wpAnyH_ready (rs := [8]) (by kernel_rfl) (by simp) ?_
                      refine AllReadyH.cons rfl (fun K hK => ?_) AllReadyH.nil
                      rw [if_pos (by rfl)]
                      go_simp
                      have bn := (Below.refl _ W1).alloc (Nat.le_refl _) (.cells #[.int .i64 (i + (ng : Int)), .string T, .slice ao nt c'] 46)
                      have hN2 := QB.new W1 (i + (ng : Int)) T (.slice ao nt c')
                      have hJ2 := hJ1.alloc (.cells #[.int .i64 (i + (ng : Int)), .string T, .slice ao nt c'] 46)
                      have hQ2 := hQ1.below bn hQ1.lt
                      have hB2 := hB1.trans (bn.mono hB1.size)
                      have ht2 := ht1.keep (cells_keepL bn (Nat.le_refl _))
                      have hu2 := hu1.belowJ bn
                      refine hK.out _ _ ⟨hQ2.c0, hQ2.c1, hQ2.c2, cells_keepL hB2 (Nat.le_refl _) _ _ x0⟩ (fun hT => ?_)
                      clear hK hT bn ht1 hu1
                      try simp only [Act.put, List.setIfInBounds_toArray, List.set_cons_zero, List.set_cons_succ]
                      generalize W1.heap.size = r at hN2 ⊢
                      generalize hw : World.alloc W1 _ = W2 at hN2 hJ2 hQ2 hB2 ht2 hu2 ⊢
                      clear hw
                      refine wpAnyH_ready (rs := [9]) (by kernel_rfl) (by simp) ?_
                      refine AllReadyH.cons rfl (fun K hK => ?_) AllReadyH.nil
                      rw [if_pos (by rfl)]
                      have hov := hJ2.q
                      rw [hQl] at hov
                      refine wp_append_own _ (.tmp 231) (.tmp 238) 47 (by rfl) w3.heap.size 46 i4 (.agg #[.int .i64 0, .string ⟨#[]⟩, .slice none 0 0]) 3 48 Tryz.underlying47 hy hy0 hy1 hy2 rfl (by decide) qw (nq + k) (qcl Qs) (by rfl) hov ⟨r, 0, none⟩ 1 1 [.int .i64 (i + (ng : Int)), .string T, .slice ao nt c'] (by rfl) rfl (threeL hN2.c0 hN2.c1 hN2.c2) (by simp [Value.oneCell']) (by unfold maxLen; omega) (by omega) hB2.size ?_
                      intro qv W3 ho hg _
                      obtain ⟨qo, qc9, rfl⟩ := own_slice ho
                      rw [show [Value.int .i64 (i + (ng : Int)), .string T, .slice ao nt c'] = qcl [((i + (ng : Int)), T, ao, c', L.map (clT JJ))] by simp [qcl, HNT.out]] at ho
                      have hJ3 := hJ2.appQ (xs := [((i + (ng : Int)), T, ao, c', L.map (clT JJ))]) hg ho (fun x hx => by rw [List.mem_singleton] at hx; subst hx; exact ⟨ht2, fun b off _ he => .inr (hu2 b off he)⟩)
                      have hQ3 : QB W3 q i T (.slice ta nt tc) := (hg.block q hQ2.lt (fun e => hqne e)).trans hQ2
                      have hB3 := hB2.grown hg hB2.size (fun q e => (hJ2.tyQ q e).1)
                      refine hK.out _ _ ⟨hQ3.c0, hQ3.c1, hQ3.c2, cells_keepL hB3 (Nat.le_refl _) _ _ x0⟩ (fun hT => ?_)
                      clear hK hT hg ho hov
                      try simp only [Act.put, List.setIfInBounds_toArray]
                      have hT := (⟨hQ3.c0, hQ3.c1, hQ3.c2, cells_keepL hB3 (Nat.le_refl _) _ _ x0⟩ : W3.cell? ⟨q, 0, none⟩ = some (.int .i64 i) ∧ W3.cell? ⟨q, 1, none⟩ = some (.string T) ∧ W3.cell? ⟨q, 2, none⟩ = some (.slice ta nt tc) ∧ W3.cell? ⟨w.heap.size, 0, none⟩ = some (.slice ga ng gc))
                      refine wpAnyH_take (i := 10) (oi := { dst := some 240, op := _, type := _, pos := _, after := _, guard := _ }) (v := .pointer (some (⟨p, 2, none⟩ : Addr))) rfl (by kernel_rfl) (by kernel_rfl) (by kernel_rfl) (fun _ _ _ h => h) (Or.inl ⟨by rfl, fun w' hSw => (by (try dsimp only at hSw); go_simp)⟩) (by assumption) ?_
                      try simp only [Act.put]
                      clear hT
                      refine wpAnyH_ready (rs := [11]) (by kernel_rfl) (by simp) ?_
                      refine AllReadyH.cons rfl (fun K hK => ?_) AllReadyH.nil
                      rw [if_pos (by rfl)]
                      have hc2 := hJ3.o.c2
                      have hf2 := hJ3.o.f 2
                      go_simp
                      have hJ4 := hJ3.set2 (.slice qo (nq + k + 1) qc9)
                      have hB4 := hB3.setCell (p := ⟨p, 2, none⟩) hJ3.kp (.slice qo (nq + k + 1) qc9)
                      have hQ4 : QB (World.setCell W3 ⟨p, 2, none⟩ (.slice qo (nq + k + 1) qc9)) q i T (.slice ta nt tc) := (Below.heap_setCell _ _ _ q hqp).trans hQ3
                      refine hK.out _ _ ⟨hQ4.c0, hQ4.c1, hQ4.c2, cells_keepL hB4 (Nat.le_refl _) _ _ x0⟩ (fun hT => ?_)
                      clear hK hT hc2 hf2
                      try simp only [Act.put, List.setIfInBounds_toArray, List.set_cons_zero, List.set_cons_succ]
                      refine wpAnyH_done (by kernel_rfl) ?_ _
                      clear hJ3 hQ3 hB3 hQ4 
                      go_wp2_with fail
                      exact ⟨⟨k + 1, Qs ++ [((i + (ng : Int)), T, ao, c', L.map (clT JJ))], _, by omega, by go_num, HQX.out _ rfl, by rw [List.length_append, List.length_singleton, hQl]; omega, hJ4, hB4⟩, by simp [intOf]; omega⟩
                     ·
                      rw [if_pos (by rfl)]
                      go_simp
                      have bn := (Below.refl _ W1).alloc (Nat.le_refl _) (.cells #[.int .i64 (i + (ng : Int)), .string T, .slice ao nt c'] 46)
                      have hN2 := QB.new W1 (i + (ng : Int)) T (.slice ao nt c')
                      have hJ2 := hJ1.alloc (.cells #[.int .i64 (i + (ng : Int)), .string T, .slice ao nt c'] 46)
                      have hQ2 := hQ1.below bn hQ1.lt
                      have hB2 := hB1.trans (bn.mono hB1.size)
                      have ht2 := ht1.keep (cells_keepL bn (Nat.le_refl _))
                      have hu2 := hu1.belowJ bn
                      refine hK.out _ _ ⟨hQ2.c0, hQ2.c1, hQ2.c2, cells_keepL hB2 (Nat.le_refl _) _ _ x0⟩ (fun hT => ?_)
                      clear hK hT bn ht1 hu1
                      try simp only [Act.put, List.setIfInBounds_toArray, List.set_cons_zero, List.set_cons_succ]
                      generalize W1.heap.size = r at hN2 ⊢
                      generalize hw : World.alloc W1 _ = W2 at hN2 hJ2 hQ2 hB2 ht2 hu2 ⊢
                      clear hw
                      refine wpAnyH_ready (rs := [1]) (by kernel_rfl) (by simp) ?_
                      refine AllReadyH.cons rfl (fun K hK => ?_) AllReadyH.nil
                      rw [if_pos (by rfl)]
                      have hl := hJ2.o.c2
                      go_simp
                      refine hK.out _ _ ⟨hQ2.c0, hQ2.c1, hQ2.c2, cells_keepL hB2 (Nat.le_refl _) _ _ x0⟩ (fun hT => ?_)
                      clear hK hT hl
                      try simp only [Act.put, List.setIfInBounds_toArray, List.set_cons_zero, List.set_cons_succ]
                      refine wpAnyH_ready (rs := [9]) (by kernel_rfl) (by simp) ?_
                      refine AllReadyH.cons rfl (fun K hK => ?_) AllReadyH.nil
                      rw [if_pos (by rfl)]
                      have hov := hJ2.q
                      rw [hQl] at hov
                      refine wp_append_own _ (.tmp 231) (.tmp 238) 47 (by rfl) w3.heap.size 46 i4 (.agg #[.int .i64 0, .string ⟨#[]⟩, .slice none 0 0]) 3 48 Tryz.underlying47 hy hy0 hy1 hy2 rfl (by decide) qw (nq + k) (qcl Qs) (by rfl) hov ⟨r, 0, none⟩ 1 1 [.int .i64 (i + (ng : Int)), .string T, .slice ao nt c'] (by rfl) rfl (threeL hN2.c0 hN2.c1 hN2.c2) (by simp [Value.oneCell']) (by unfold maxLen; omega) (by omega) hB2.size ?_
                      intro qv W3 ho hg _
                      obtain ⟨qo, qc9, rfl⟩ := own_slice ho
                      rw [show [Value.int .i64 (i + (ng : Int)), .string T, .slice ao nt c'] = qcl [((i + (ng : Int)), T, ao, c', L.map (clT JJ))] by simp [qcl, HNT.out]] at ho
                      have hJ3 := hJ2.appQ (xs := [((i + (ng : Int)), T, ao, c', L.map (clT JJ))]) hg ho (fun x hx => by rw [List.mem_singleton] at hx; subst hx; exact ⟨ht2, fun b off _ he => .inr (hu2 b off he)⟩)
                      have hQ3 : QB W3 q i T (.slice ta nt tc) := (hg.block q hQ2.lt (fun e => hqne e)).trans hQ2
                      have hB3 := hB2.grown hg hB2.size (fun q e => (hJ2.tyQ q e).1)
                      refine hK.out _ _ ⟨hQ3.c0, hQ3.c1, hQ3.c2, cells_keepL hB3 (Nat.le_refl _) _ _ x0⟩ (fun hT => ?_)
                      clear hK hT hg ho hov
                      try simp only [Act.put, List.setIfInBounds_toArray]
                      have hT := (⟨hQ3.c0, hQ3.c1, hQ3.c2, cells_keepL hB3 (Nat.le_refl _) _ _ x0⟩ : W3.cell? ⟨q, 0, none⟩ = some (.int .i64 i) ∧ W3.cell? ⟨q, 1, none⟩ = some (.string T) ∧ W3.cell? ⟨q, 2, none⟩ = some (.slice ta nt tc) ∧ W3.cell? ⟨w.heap.size, 0, none⟩ = some (.slice ga ng gc))
                      refine wpAnyH_take (i := 10) (oi := { dst := some 240, op := _, type := _, pos := _, after := _, guard := _ }) (v := .pointer (some (⟨p, 2, none⟩ : Addr))) rfl (by kernel_rfl) (by kernel_rfl) (by kernel_rfl) (fun _ _ _ h => h) (Or.inl ⟨by rfl, fun w' hSw => (by (try dsimp only at hSw); go_simp)⟩) (by assumption) ?_
                      try simp only [Act.put]
                      clear hT
                      refine wpAnyH_ready (rs := [11]) (by kernel_rfl) (by simp) ?_
                      refine AllReadyH.cons rfl (fun K hK => ?_) AllReadyH.nil
                      rw [if_pos (by rfl)]
                      have hc2 := hJ3.o.c2
                      have hf2 := hJ3.o.f 2
                      go_simp
                      have hJ4 := hJ3.set2 (.slice qo (nq + k + 1) qc9)
                      have hB4 := hB3.setCell (p := ⟨p, 2, none⟩) hJ3.kp (.slice qo (nq + k + 1) qc9)
                      have hQ4 : QB (World.setCell W3 ⟨p, 2, none⟩ (.slice qo (nq + k + 1) qc9)) q i T (.slice ta nt tc) := (Below.heap_setCell _ _ _ q hqp).trans hQ3
                      refine hK.out _ _ ⟨hQ4.c0, hQ4.c1, hQ4.c2, cells_keepL hB4 (Nat.le_refl _) _ _ x0⟩ (fun hT => ?_)
                      clear hK hT hc2 hf2
                      try simp only [Act.put, List.setIfInBounds_toArray, List.set_cons_zero, List.set_cons_succ]
                      refine wpAnyH_done (by kernel_rfl) ?_ _
                      clear hJ3 hQ3 hB3 hQ4 
                      go_wp2_with fail
                      exact ⟨⟨k + 1, Qs ++ [((i + (ng : Int)), T, ao, c', L.map (clT JJ))], _, by omega, by go_num, HQX.out _ rfl, by rw [List.length_append, List.length_singleton, hQl]; omega, hJ4, hB4⟩, by simp [intOf]; omega⟩
                   ·
                    obtain rfl : mq = k := by omega
                    have HQ1 : Hid (Qs.map eqp = SA.Q ++ SB.Q.map (jQ ng JJ)) := by
                     show _ = _
                     rw [hQm.out, HPB.out.2.2, List.take_of_length_le (by rw [HMQ.out]; omega), List.map_map]
                     rfl
                    clear hQm
                    obtain ⟨s, hs1, hs2, hs3, hSS⟩ := hJS.SS
                    obtain ⟨hf1, hf2, hf3, hf4, hf5⟩ := HFO.out.1
                    have hpl : (StM.pl ⟨G ++ G', VW, Qs⟩) = jnS SA SB (JJ, VW) := by
                     unfold StM.pl jnS
                     simp only
                     rw [HQ1.out, HPA.out.1, HPB.out.1, HNG.out]
                    have hok : (StM.mk (G ++ G') VW Qs).ok := by
                     obtain ⟨fA, fB, kA, kB, ffA, ffB⟩ := HF.out
                     refine StM.ok_of ?_
                     rw [hpl]
                     refine jnS_ok kA kB fA fB ffB ?_ ?_ ?_ ?_
                     ·
                      rw [HPB.out.2.1, HM.out]; exact hf1
                     ·
                      show VW.length ≤ 128
                      have hf6 : VW.length ≤ na + m := hf3
                      omega
                     ·
                      rw [HPB.out.2.1, HM.out]; exact hf4
                     ·
                      rw [HPA.out.2.1, HPB.out.2.1]
                      intro x hx
                      rcases hf5 x hx with h | h
                      ·
                       exact HFO.out.2 x h
                      ·
                       exact .inr h
                    have hlc := lcheck_any s ⟨G ++ G', VW, Qs⟩ wr hSS hok
                    rw [hpl] at hlc
                    have HPL := Lib.hid hpl
                    have HOK := Lib.hid hok
                    have hbw := hb3.trans (hB.mono hb3.size)
                    have hZw := hZ3.below hB hZ3.lt
                    have hzn : w.heap.size + 1 + 1 ≠ p := fun e => by have := hJS.kp; have := hZ3.lt; omega
                    subst hs1 hs2 hs3
                    have c0 := hJS.o.c0
                    have c1 := hJS.o.c1
                    have c2 := hJS.o.c2
                    have HJS := Lib.hid hJS
                    obtain ⟨E, hE⟩ : ∃ z, lckE (jnS SA SB (JJ, VW)) = z := ⟨_, rfl⟩
                    have HR0 : Hid (E = 0 → R = (0, jnS SA SB (JJ, VW), JJ)) := fun h => by rw [hR]; exact endJ_ok (hE.trans h)
                    have HR1 : Hid (E ≠ 0 → R = noJ E) := fun h => by rw [hR, ← hE]; exact endJ_no (by rw [hE]; exact h)
                    rw [hE] at hlc
                    simp only [List.length_append, hQl] at hlc
                    have HLC := Lib.hid hlc
                    have HF1 : Hid (JJ.length = m) := hf1
                    clear hR hE hf1 hf2 hf3 hf4 hf5 hpl hok hSS HFO hJS hlc
                    go_wp2_with fail
                    refine HLC.out.mono ?_; rintro e w9 ⟨rfl, b9⟩
                    have hbf := hbw.trans (b9.mono hbw.size)
                    have hZf := hZw.below b9 hZw.lt
                    have hJ9 := HJS.out.below b9
                    by_cases hz : E = 0
                    ·
                     have hRR := HR0.out hz
                     subst hz
                     subst hRR
                     have k0 := hJ9.o.c0
                     have k1 := hJ9.o.c1
                     have k2 := hJ9.o.c2
                     have f0 := hZf.f 0
                     have f1 := hZf.f 1
                     have f2 := hZf.f 2
                     have g0 := hZf.c0
                     have g1 := hZf.c1
                     have g2 := hZf.c2
                     have z1 := hZf.set0 (.slice s.ga (G ++ G').length s.gc)
                     have z2 := z1.set1 (.slice s.va VW.length s.vc)
                     have j1 := hJ9.setR (j := 0) (x := .slice s.ga (G ++ G').length s.gc) (r := w.heap.size + 1 + 1) (by omega) hzn hZf
                     have j2 := j1.setR (j := 1) (x := .slice s.va VW.length s.vc) (r := w.heap.size + 1 + 1) (by omega) hzn z1
                     have j3 := j2.setR (j := 2) (x := .slice s.qa Qs.length s.qc) (r := w.heap.size + 1 + 1) (by omega) hzn z2
                     have b3 := ((hbf.setCell (p := ⟨w.heap.size + 1 + 1, 0, none⟩) (by simp; omega) (.slice s.ga (G ++ G').length s.gc)).setCell (p := ⟨w.heap.size + 1 + 1, 1, none⟩) (by simp; omega) (.slice s.va VW.length s.vc)).setCell (p := ⟨w.heap.size + 1 + 1, 2, none⟩) (by simp; omega) (.slice s.qa Qs.length s.qc)
                     have HFIN : Hid (JoP (0, jnS SA SB (JJ, VW), JJ) w (.returned (.tuple #[.agg #[.slice s.ga (G ++ G').length s.gc, .slice s.va VW.length s.vc, .slice s.qa Qs.length s.qc], .slice (some ⟨w3.heap.size, 0, none⟩) m m, .int .i64 0])) (((w9.setCell ⟨w.heap.size + 1 + 1, 0, none⟩ (.slice s.ga (G ++ G').length s.gc)).setCell ⟨w.heap.size + 1 + 1, 1, none⟩ (.slice s.va VW.length s.vc)).setCell ⟨w.heap.size + 1 + 1, 2, none⟩ (.slice s.qa Qs.length s.qc))) := by
                      obtain ⟨s', h1, h2, h3, hS'⟩ := j3.SS
                      have hss : s' = s := by
                       cases s; cases s'
                       injection h1 with a1 _ a2
                       injection h2 with d1 _ d2
                       injection h3 with e1 _ e2
                       simp only at a1 a2 d1 d2 e1 e2
                       subst a1 a2 d1 d2 e1 e2
                       rfl
                      subst hss
                      exact ⟨s', ⟨G ++ G', VW, Qs⟩, m, some ⟨w3.heap.size, 0, none⟩, m, rfl, hS', HOK.out, HPL.out, j3.LI, HF1.out.symm, b3⟩
                     simp only [List.length_append, hQl] at HFIN k0 k1 k2
                     clear z1 z2 j1 j2 j3 b3 hJ9 HJS HOK HPL HR0 HR1 HLC
                     go_upto_region 64 with fail
                     repeat go_step
                     exact bodyPost_st3 rfl rfl rfl rfl (put3 hZf) rfl HFIN.out
                    ·
                     have hRR := HR1.out hz
                     subst hRR
                     have q2 : (E != 0) = true := by rw [bne_iff_ne]; exact hz
                     clear hJ9 HJS HOK HPL HR0 HR1 HLC
                     have f0 := hZf.f 0
                     have f1 := hZf.f 1
                     have f2 := hZf.f 2
                     have g0 := hZf.c0
                     have g1 := hZf.c1
                     have g2 := hZf.c2
                     go_upto_region 63 with fail
                     repeat go_step
                     exact bodyPost_st3 rfl rfl rfl rfl (put3 hZf) rfl (JoP.fail hbf (by omega))
end Go.Proofs.YtdhhbjmkdmbffaaGreatDoor
