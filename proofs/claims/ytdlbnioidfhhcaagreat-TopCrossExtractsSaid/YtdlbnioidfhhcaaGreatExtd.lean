/- integer.Extended. -/
import Derived.Test.YtdlbnioidfhhcaaGreatExt
import Derived.Test.YtdlbnioidfhhcaaGreatEuc
namespace Go.Proofs.YtdlbnioidfhhcaaGreat
open Go.RowKit Num
set_option maxRecDepth 20000
set_option linter.unusedVariables false
/-- two numbers in a row -/
def N2 (W : World) (b : Nat) (x y : Nat) : Prop := W.heap[b]? = some (.cells #[.string (enc x), .string (enc y)] 148 (0, 0))
section
variable {W W' : World} {b x y : Nat}
theorem N2.lt (h : N2 W b x y) : b < W.heap.size := (Array.getElem?_eq_some_iff.1 h).1
theorem N2.c0 (h : N2 W b x y) : W.cell? ⟨b, 0, none⟩ = some (.string (enc x)) := by rw [Lib.cell_of_heap h]; rfl
theorem N2.c1 (h : N2 W b x y) : W.cell? ⟨b, 1, none⟩ = some (.string (enc y)) := by rw [Lib.cell_of_heap h]; rfl
theorem N2.f (h : N2 W b x y) (j : Nat) : W.frozen? ⟨b, j, none⟩ = false := Lib.frozen_of_heap h j
theorem N2.below {B : Nat} (h : N2 W b x y) (hb : Below B W W') (hB : b < B) : N2 W' b x y := (hb.block b hB).trans h
theorem N2.new (W : World) (x y : Nat) : N2 (W.alloc (.cells #[.string (enc x), .string (enc y)] 148)) W.heap.size x y := heap_alloc_new W _
end
/-- the variables of Extended -/
structure EW (w W : World) (p8 p9 p10 r0 r1 : Nat) (x0 x1 y0 y1 : Int) : Prop where
  n : N2 W p8 r0 r1
  x : Z2 W p9 x0 x1
  y : Z2 W p10 y0 y1
  r5 : RBox W w.heap.size
  r6 : RBox W (w.heap.size + 1)
  b : Below w.heap.size w W
  o : w.heap.size + 1 < p8 ∧ p8 < p9 ∧ p9 < p10
theorem EW.drew {w W : World} {p8 p9 p10 r0 r1 : Nat} {x0 x1 y0 y1 : Int} (h : EW w W p8 p9 p10 r0 r1 x0 x1 y0 y1) : EW w W.drew p8 p9 p10 r0 r1 x0 x1 y0 y1 := ⟨h.n, h.x, h.y, h.r5, h.r6, h.b.drew, h.o⟩
theorem EW.below {w W W' : World} {p8 p9 p10 r0 r1 : Nat} {x0 x1 y0 y1 : Int} (h : EW w W p8 p9 p10 r0 r1 x0 x1 y0 y1) (hb : Below W.heap.size W W') : EW w W' p8 p9 p10 r0 r1 x0 x1 y0 y1 :=
  ⟨h.n.below hb h.n.lt, h.x.below hb h.x.lt, h.y.below hb h.y.lt, h.r5.below hb h.r5.lt, h.r6.below hb h.r6.lt, h.b.trans (hb.mono h.b.size), h.o⟩
/-- the second number of a row -/
def n2v (W : World) (b : Nat) : Nat := match W.cell? ⟨b, 1, none⟩ with | some (.string s) => nv s | _ => 0
theorem N2.val {W : World} {b x y : Nat} (h : N2 W b x y) : n2v W b = y := by unfold n2v; rw [h.c1]; exact nv_enc y
theorem EW.next {w W : World} {p8 p9 p10 r0 r1 : Nat} {x0 x1 y0 y1 : Int} (h : EW w W p8 p9 p10 r0 r1 x0 x1 y0 y1) (q r2 : Nat) :
    ∃ w6, W.alloc (.cells #[.string (enc q)] 22) = w6 ∧ EW w w6 p8 p9 p10 r0 r1 x0 x1 y0 y1 ∧ w6.cell? ⟨W.heap.size, 0, none⟩ = some (.string (enc q)) ∧
      ∃ w7, (w6.setCell ⟨p8, 0, none⟩ (.string (enc r1))).setCell ⟨p8, 1, none⟩ (.string (enc r2)) = w7 ∧ EW w w7 p8 p9 p10 r1 r2 x0 x1 y0 y1 ∧ w7.cell? ⟨W.heap.size, 0, none⟩ = some (.string (enc q)) ∧ w7.heap.size = W.heap.size + 1 := by
  have h6 : EW w (W.alloc (.cells #[.string (enc q)] 22)) p8 p9 p10 r0 r1 x0 x1 y0 y1 := h.below ((Below.refl _ W).alloc (Nat.le_refl _) _)
  have hc : (W.alloc (.cells #[.string (enc q)] 22)).heap[W.heap.size]? = some (.cells #[.string (enc q)] 22 (0, 0)) := heap_alloc_new W _
  have hlt := h.n.lt
  have ho := h.o
  have e : ∀ k, k ≠ p8 → (((W.alloc (.cells #[.string (enc q)] 22)).setCell ⟨p8, 0, none⟩ (.string (enc r1))).setCell ⟨p8, 1, none⟩ (.string (enc r2))).heap[k]? = (W.alloc (.cells #[.string (enc q)] 22)).heap[k]? :=
    fun k hk => (Below.heap_setCell _ _ _ _ hk).trans (Below.heap_setCell _ _ _ _ hk)
  refine ⟨_, rfl, h6, by rw [Lib.cell_of_heap hc]; rfl, _, rfl, ⟨put2 h6.n, (e _ (by omega)).trans h6.x, (e _ (by omega)).trans h6.y, (e _ (by omega)).trans h6.r5, (e _ (by omega)).trans h6.r6,
    (h6.b.setCell (p := ⟨p8, 0, none⟩) (by show _ ≤ p8; omega) _).setCell (p := ⟨p8, 1, none⟩) (by show _ ≤ p8; omega) _, ho⟩, ?_, by simp⟩
  rw [Lib.cell_of_heap ((e _ (by omega)).trans hc)]
  rfl
theorem EW.store {w W : World} {p8 p9 p10 r0 r1 : Nat} {x0 x1 y0 y1 : Int} (h : EW w W p8 p9 p10 r0 r1 x0 x1 y0 y1) (a0 a1 b0 b1 : Int) :
    EW w ((((((((W.setCell ⟨p9, 0, none⟩ (.bool (zb a0))).setCell ⟨p9, 1, none⟩ (.string (zs a0))).setCell ⟨p9, 2, none⟩ (.bool (zb a1))).setCell ⟨p9, 3, none⟩ (.string (zs a1))).setCell ⟨p10, 0, none⟩ (.bool (zb b0))).setCell ⟨p10, 1, none⟩ (.string (zs b0))).setCell ⟨p10, 2, none⟩ (.bool (zb b1))).setCell ⟨p10, 3, none⟩ (.string (zs b1))) p8 p9 p10 r0 r1 a0 a1 b0 b1 := by
  have ho := h.o
  have e9 : ∀ (V : World) (v0 v1 v2 v3 : Value) k, k ≠ p9 → ((((V.setCell ⟨p9, 0, none⟩ v0).setCell ⟨p9, 1, none⟩ v1).setCell ⟨p9, 2, none⟩ v2).setCell ⟨p9, 3, none⟩ v3).heap[k]? = V.heap[k]? :=
    fun V v0 v1 v2 v3 k hk => (Below.heap_setCell _ _ _ _ hk).trans ((Below.heap_setCell _ _ _ _ hk).trans ((Below.heap_setCell _ _ _ _ hk).trans (Below.heap_setCell _ _ _ _ hk)))
  have e10 : ∀ (V : World) (v0 v1 v2 v3 : Value) k, k ≠ p10 → ((((V.setCell ⟨p10, 0, none⟩ v0).setCell ⟨p10, 1, none⟩ v1).setCell ⟨p10, 2, none⟩ v2).setCell ⟨p10, 3, none⟩ v3).heap[k]? = V.heap[k]? :=
    fun V v0 v1 v2 v3 k hk => (Below.heap_setCell _ _ _ _ hk).trans ((Below.heap_setCell _ _ _ _ hk).trans ((Below.heap_setCell _ _ _ _ hk).trans (Below.heap_setCell _ _ _ _ hk)))
  have hb : ∀ (V : World) (p : Nat) (v : Value) (j : Nat), Below w.heap.size w V → w.heap.size ≤ p → Below w.heap.size w (V.setCell ⟨p, j, none⟩ v) := fun V p v j hV hp => hV.setCell (p := ⟨p, j, none⟩) hp v
  refine ⟨(e10 _ _ _ _ _ _ (by omega)).trans ((e9 _ _ _ _ _ _ (by omega)).trans h.n), (e10 _ _ _ _ _ _ (by omega)).trans (put4 h.x), put4 ((e9 _ _ _ _ _ _ (by omega)).trans h.y),
    (e10 _ _ _ _ _ _ (by omega)).trans ((e9 _ _ _ _ _ _ (by omega)).trans h.r5), (e10 _ _ _ _ _ _ (by omega)).trans ((e9 _ _ _ _ _ _ (by omega)).trans h.r6), ?_, ho⟩
  have l9 : w.heap.size ≤ p9 := by omega
  have l10 : w.heap.size ≤ p10 := by omega
  exact hb _ _ _ _ (hb _ _ _ _ (hb _ _ _ _ (hb _ _ _ _ (hb _ _ _ _ (hb _ _ _ _ (hb _ _ _ _ (hb _ _ _ _ h.b l9) l9) l9) l9) l10) l10) l10) l10
theorem EW.put9 {w W : World} {p8 p9 p10 r0 r1 : Nat} {x0 x1 y0 y1 : Int} (h : EW w W p8 p9 p10 r0 r1 x0 x1 y0 y1) (a0 : Int) :
    EW w ((W.setCell ⟨p9, 0, none⟩ (.bool (zb a0))).setCell ⟨p9, 1, none⟩ (.string (zs a0))) p8 p9 p10 r0 r1 a0 x1 y0 y1 := by
  have ho := h.o
  have e : ∀ k, k ≠ p9 → ((W.setCell ⟨p9, 0, none⟩ (.bool (zb a0))).setCell ⟨p9, 1, none⟩ (.string (zs a0))).heap[k]? = W.heap[k]? := fun k hk => (Below.heap_setCell _ _ _ _ hk).trans (Below.heap_setCell _ _ _ _ hk)
  exact ⟨(e _ (by omega)).trans h.n, put1 (put1 h.x), (e _ (by omega)).trans h.y, (e _ (by omega)).trans h.r5, (e _ (by omega)).trans h.r6,
    (h.b.setCell (p := ⟨p9, 0, none⟩) (by show _ ≤ p9; omega) _).setCell (p := ⟨p9, 1, none⟩) (by show _ ≤ p9; omega) _, ho⟩
theorem EW.put10 {w W : World} {p8 p9 p10 r0 r1 : Nat} {x0 x1 y0 y1 : Int} (h : EW w W p8 p9 p10 r0 r1 x0 x1 y0 y1) (a0 : Int) :
    EW w ((W.setCell ⟨p10, 0, none⟩ (.bool (zb a0))).setCell ⟨p10, 1, none⟩ (.string (zs a0))) p8 p9 p10 r0 r1 x0 x1 a0 y1 := by
  have ho := h.o
  have e : ∀ k, k ≠ p10 → ((W.setCell ⟨p10, 0, none⟩ (.bool (zb a0))).setCell ⟨p10, 1, none⟩ (.string (zs a0))).heap[k]? = W.heap[k]? := fun k hk => (Below.heap_setCell _ _ _ _ hk).trans (Below.heap_setCell _ _ _ _ hk)
  exact ⟨(e _ (by omega)).trans h.n, (e _ (by omega)).trans h.x, put1 (put1 h.y), (e _ (by omega)).trans h.r5, (e _ (by omega)).trans h.r6,
    (h.b.setCell (p := ⟨p10, 0, none⟩) (by show _ ≤ p10; omega) _).setCell (p := ⟨p10, 1, none⟩) (by show _ ≤ p10; omega) _, ho⟩
theorem EW.start (w v : World) (p8 a b : Nat) (hn : N2 v p8 a b) (h5 : RBox v w.heap.size) (h6 : RBox v (w.heap.size + 1)) (hb : Below w.heap.size w v) (ho : w.heap.size + 1 < p8) :
    EW w ((v.alloc (.cells #[.bool (zb 1), .string (zs 1), .bool (zb 0), .string (zs 0)] 149)).alloc (.cells #[.bool (zb 0), .string (zs 0), .bool (zb 1), .string (zs 1)] 149)) p8 v.heap.size (v.heap.size + 1) a b (sg true 1) (sg (!true) 0) (sg (!true) 0) (sg true 1) := by
  have b2 : Below v.heap.size v ((v.alloc (.cells #[.bool (zb 1), .string (zs 1), .bool (zb 0), .string (zs 0)] 149)).alloc (.cells #[.bool (zb 0), .string (zs 0), .bool (zb 1), .string (zs 1)] 149)) := ((Below.refl _ v).alloc (Nat.le_refl _) _).alloc (by simp) _
  have hy := Z2.new (v.alloc (.cells #[.bool (zb 1), .string (zs 1), .bool (zb 0), .string (zs 0)] 149)) 0 1
  rw [World.size_alloc] at hy
  exact ⟨hn.below b2 hn.lt, (Z2.new v 1 0).alloc _, hy, h5.below b2 h5.lt, h6.below b2 h6.lt, hb.trans (b2.mono hb.size), ⟨ho, hn.lt, Nat.lt_succ_self _⟩⟩
theorem results_ext {fn : Func} {p q t u : Tmp} (h : fn.results = #[.tmp t, .cell p 50, .cell q 50, .tmp u]) (tmps : Array Value) (P : Program) (w : World) :
    (results fn tmps).run P w =
      ((asAddr (tmps.getD p undef)).run P w).andThen fun a w1 => ((loadVar 50 a).run P w1).andThen fun v w2 =>
        ((asAddr (tmps.getD q undef)).run P w2).andThen fun b w3 => ((loadVar 50 b).run P w3).andThen fun v' w4 => .ok (.tuple #[tmps.getD t undef, v, v', tmps.getD u undef]) w4 := by
  simp only [results, h]
  simp [Sem.run_bind, Result.andThen]
theorem bodyPost_ext {fn : Func} {R : Ending → World → Prop} {p q t u : Tmp} {a : Act} {W : World} {b c : Nat} {g v v0 v1 u0 u1 : Value} (h : fn.results = #[.tmp t, .cell p 50, .cell q 50, .tmp u])
    (ht : a.tmps.getD t undef = g) (hp : a.tmps.getD p undef = .pointer (some ⟨b, 0, none⟩)) (hq : a.tmps.getD q undef = .pointer (some ⟨c, 0, none⟩)) (hu : a.tmps.getD u undef = v)
    (hb : W.heap[b]? = some (.cells #[v0, v1] 50 (0, 0))) (hc : W.heap[c]? = some (.cells #[u0, u1] 50 (0, 0))) (hd : a.defers = [])
    (hR : R (.returned (.tuple #[g, .agg #[v0, v1], .agg #[u0, u1], v])) W) : bodyPost Tryz.prog fn R Exit.ret a W := by
  refine bodyPost_ret (v := .tuple #[g, .agg #[v0, v1], .agg #[u0, u1], v]) (w := W) ?_ hd hR
  rw [results_ext h, hp, hq, hu, ht]
  simp [asAddr, Result.andThen, run_loadVar_row W b _ _ _ (0, 0) _ hb Tryz.underlying50 rfl info_Int, run_loadVar_row W c _ _ _ (0, 0) _ hc Tryz.underlying50 rfl info_Int]
/-- two results stored -/
theorem EW.out {w W : World} {p8 p9 p10 r0 r1 : Nat} {x0 x1 y0 y1 : Int} (h : EW w W p8 p9 p10 r0 r1 x0 x1 y0 y1) (u0 u1 v0 v1 : Value) :
    ∃ W', (((W.setCell ⟨w.heap.size, 0, none⟩ u0).setCell ⟨w.heap.size, 1, none⟩ u1).setCell ⟨w.heap.size + 1, 0, none⟩ v0).setCell ⟨w.heap.size + 1, 1, none⟩ v1 = W' ∧
      W'.heap[w.heap.size]? = some (.cells #[u0, u1] 50 (0, 0)) ∧ W'.heap[w.heap.size + 1]? = some (.cells #[v0, v1] 50 (0, 0)) ∧ Below w.heap.size w W' := by
  refine ⟨_, rfl, ?_, ?_, ?_⟩
  · exact (Below.heap_setCell _ _ _ _ (by simp)).trans ((Below.heap_setCell _ _ _ _ (by simp)).trans (put2 h.r5))
  · exact put2 ((Below.heap_setCell _ _ _ _ (by simp)).trans ((Below.heap_setCell _ _ _ _ (by simp)).trans h.r6))
  · exact (((h.b.setCell (p := ⟨w.heap.size, 0, none⟩) (Nat.le_refl _) _).setCell (p := ⟨w.heap.size, 1, none⟩) (Nat.le_refl _) _).setCell (p := ⟨w.heap.size + 1, 0, none⟩) (Nat.le_succ _) _).setCell (p := ⟨w.heap.size + 1, 1, none⟩) (Nat.le_succ _) _
theorem blen_max1 {a : Nat} (ha : blen a ≤ 128) : blen (max a 1) ≤ 128 := by
  rcases Nat.le_total a 1 with h' | h'
  · rw [Nat.max_eq_right h']; decide
  · rw [Nat.max_eq_left h']; exact ha
/-- what Extended returns: the coefficients of the greatest common divisor, the first one reduced -/
def ExtR (a b : Nat) (w : World) (e : Ending) (w' : World) : Prop :=
  ∃ x y : Int, e = .returned (.tuple #[.string (enc (Nat.gcd a b)), .agg #[.bool (zb x), .string (zs x)], .agg #[.bool (zb y), .string (zs y)], .int .i64 0]) ∧
    (a : Int) * x + b * y = (Nat.gcd a b : Nat) ∧ 0 ≤ x ∧ x < ((b / Nat.gcd a b : Nat) : Int) ∧ y.natAbs ≤ max a 1 ∧ Below w.heap.size w w'
set_option maxHeartbeats 4000000 in
theorem extended_any (s t : ByteArray) (a b : Nat) (w : World) (ha : IsN s a) (hb : IsN t b) (hb0 : 0 < b) :
    Calls Tryz.prog 72 #[.string s, .string t] w (ExtR a b w) := by
  obtain rfl := ha.eq
  obtain rfl := hb.eq
  have HA := Lib.hid ha
  have HB := Lib.hid hb
  have HAB := Lib.hid hb0
  have nb1 := toList_enc_nil hb0
  clear ha hb hb0
  go_enter Tryz.func72, Tryz.ntmps72
  go_wp2_with fail
  have r1 := (RBox.new w).alloc (.cells #[.bool false, .string ⟨#[]⟩] 50)
  have r2 := RBox.new (w.alloc (.cells #[.bool false, .string ⟨#[]⟩] 50))
  rw [World.size_alloc] at r2
  have b1 := ((Below.refl _ w).alloc (Nat.le_refl _) (.cells #[.bool false, .string ⟨#[]⟩] 50)).alloc (by simp) (.cells #[.bool false, .string ⟨#[]⟩] 50)
  generalize World.alloc _ _ = w1 at r1 r2 b1 ⊢
  refine (Valid_yes _ _ _ HA.out).mono ?_
  rintro e w2 ⟨rfl, rfl⟩
  go_wp2_with fail
  refine (Valid_yes _ _ _ HB.out).mono ?_
  rintro e w2 ⟨rfl, rfl⟩
  go_wp2_with fail
  have n2 := N2.new w1 a b
  have r3 := r1.alloc (.cells #[.string (enc a), .string (enc b)] 148)
  have r4 := r2.alloc (.cells #[.string (enc a), .string (enc b)] 148)
  have b2 := b1.alloc b1.size (.cells #[.string (enc a), .string (enc b)] 148)
  have o8 : w.heap.size + 1 < w1.heap.size := r2.lt
  generalize w1.heap.size = p8 at n2 o8 ⊢
  generalize w1.alloc _ = w2 at n2 r3 r4 b2 ⊢
  clear r1 r2 b1
  refine (iof_z 1 _ (by omega)).mono ?_
  rintro e v0 ⟨rfl, c0⟩
  have n0' := n2.below c0 n2.lt
  have ra0 := r3.below c0 r3.lt
  have rb0 := r4.below c0 r4.lt
  replace c0 := b2.trans (c0.mono b2.size)
  go_wp2_with fail
  refine (iof_z 0 _ (by omega)).mono ?_
  rintro e v1 ⟨rfl, c1⟩
  have n1' := n0'.below c1 n0'.lt
  have ra1 := ra0.below c1 ra0.lt
  have rb1 := rb0.below c1 rb0.lt
  replace c1 := c0.trans (c1.mono c0.size)
  go_wp2_with fail
  refine (iof_z 0 _ (by omega)).mono ?_
  rintro e v2 ⟨rfl, c2⟩
  have n2' := n1'.below c2 n1'.lt
  have ra2 := ra1.below c2 ra1.lt
  have rb2 := rb1.below c2 rb1.lt
  replace c2 := c1.trans (c2.mono c1.size)
  go_wp2_with fail
  refine (iof_z 1 _ (by omega)).mono ?_
  rintro e v3 ⟨rfl, c3⟩
  have n3' := n2'.below c3 n2'.lt
  have ra3 := ra2.below c3 ra2.lt
  have rb3 := rb2.below c3 rb2.lt
  replace c3 := c2.trans (c3.mono c2.size)
  go_wp2_with fail
  have hE := EW.start w v3 p8 a b n3' ra3 rb3 c3 o8
  have o9 := n3'.lt
  generalize v3.heap.size = p9 at hE o9 ⊢
  generalize World.alloc _ _ = w4 at hE ⊢
  clear c3 rb3 ra3 n3' c2 rb2 ra2 n2' c1 rb1 ra1 n1' c0 rb0 ra0 n0' b2 r4 r3 n2
  have HE := Lib.hid (Euc.start (a := a) HAB.out)
  go_loopw [12] (fun _ wr => ∃ (r0 r1 : Nat) (s : Bool) (X0 X1 Y0 Y1 : Nat), Hid (Euc a b r0 r1 s X0 X1 Y0 Y1) ∧ EW w wr p8 p9 (p9 + 1) r0 r1 (sg s X0) (sg (!s) X1) (sg (!s) Y0) (sg s Y1)) (fun _ wr => n2v wr p8)
  case atStart => exact ⟨a, b, true, 1, 0, 0, 1, HE, hE⟩
  case round =>
    clear hE HE
    obtain ⟨r0, r1, s, X0, X1, Y0, Y1, hEu, hW⟩ := hrel
    have c0 := hW.n.c0
    have c1 := hW.n.c1
    rcases Nat.eq_zero_or_pos r1 with h0 | h0
    · subst h0
      rw [enc_zero] at c1
      obtain ⟨hg, hX1, hY1, hlt, hr0⟩ := hEu.out.fin HAB.out
      have d0 := hW.x.c0
      have d1 := hW.x.c1
      have d4 := hW.y.c0
      have d5 := hW.y.c1
      have hW8 := hW
      have f0 := hW.r5.f0
      have f1 := hW.r5.f1
      have f2 := hW.r6.f0
      have f3 := hW.r6.f1
      have k0 := hW.r5.c0
      have k1 := hW.r5.c1
      have k2 := hW.r6.c0
      have k3 := hW.r6.c1
      have ZQ := Lib.hid (And.intro (zok_sg (s := s) hEu.out.b0 HB.out.le) (zok_sg (s := !s) hEu.out.b1 (blen_max1 HA.out.le)))
      subst hg
      have g0 : 0 < Nat.gcd a b := hr0
      have hgb : Nat.gcd a b ≤ b := Nat.le_of_dvd HAB.out (Nat.gcd_dvd_right a b)
      have HG := Lib.hid (IsN.mk' (Nat.le_trans (blen_mono hgb) HB.out.le))
      by_cases hs : 0 ≤ sg s X0
      · have hout := hEu.out.out1 HAB.out hs
        clear hEu hX1 hY1 hlt hr0 hgb
        generalize sg s X0 = x0 at *
        generalize sg (!s) X1 = x1 at *
        generalize sg (!s) Y0 = y0 at *
        generalize sg s Y1 = y1 at *
        have hs' : zb x0 = false := decide_eq_false (by omega)
        go_wp2_with fail
        go_region
        all_goals
          go_wp2_with fail
          obtain ⟨W', hW', q1, q2, q3⟩ := hW.out (.bool false) (.string (zs x0)) (.bool (zb y0)) (.string (zs y0))
          rw [hW']
          exact bodyPost_ext rfl rfl rfl rfl rfl (W := W'.drew) q1 q2 rfl ⟨x0, y0, by rw [hs']; rfl, hout.1, hout.2.1, hout.2.2.1, hout.2.2.2, q3.drew⟩
      · have hout := hEu.out.out2 HAB.out (by omega)
        have k1 : ((b / Nat.gcd a b : Nat) : Int) ≤ b := by have := Nat.div_le_self b (Nat.gcd a b); omega
        have zo1 : ZOk (sg s X0 + ((b / Nat.gcd a b : Nat) : Int)) := Nat.le_trans (blen_mono (show _ ≤ b by omega)) HB.out.le
        have zo2 : ZOk (sg (!s) Y0 - ((a / Nat.gcd a b : Nat) : Int)) := Nat.le_trans (blen_mono hout.2.2.2) (blen_max1 HA.out.le)
        have zo3 : blen (b / Nat.gcd a b) ≤ 128 := Nat.le_trans (blen_mono (Nat.div_le_self _ _)) HB.out.le
        have zo4 : blen (a / Nat.gcd a b) ≤ 128 := Nat.le_trans (blen_mono (Nat.div_le_self _ _)) HA.out.le
        have ZO := Lib.hid (And.intro zo1 (And.intro zo2 (And.intro zo3 zo4)))
        clear hEu hX1 hY1 hlt hr0 hgb zo1 zo2 zo3 zo4 k1
        generalize sg s X0 = x0 at *
        generalize sg (!s) X1 = x1 at *
        generalize sg (!s) Y0 = y0 at *
        generalize sg s Y1 = y1 at *
        have hs' : zb x0 = true := decide_eq_true (by omega)
        go_wp2_with fail
        refine (DivMod_any _ _ b (Nat.gcd a b) _ HB.out HG.out g0).mono ?_
        rintro e w5 ⟨rfl, b5⟩
        go_wp2_with fail
        refine (DivMod_any _ _ a (Nat.gcd a b) _ HA.out HG.out g0).mono ?_
        rintro e w6 ⟨rfl, b6⟩
        have hW6 := (hW.below b5).below b6
        clear hW hW8 f0 f1 f2 f3 k0 k1 k2 k3 d0 d1 d4 d5 c0 c1 hs' b5 b6
        have HOUT := Lib.hid hout
        clear hout hs
        have HFIN : Hid (∀ (x y : Int) (W' : World), ((a : Int) * x + b * y = (Nat.gcd a b : Nat) ∧ 0 ≤ x ∧ x < ((b / Nat.gcd a b : Nat) : Int) ∧ y.natAbs ≤ max a 1) → Below w.heap.size w W' →
            ExtR a b w (.returned (.tuple #[.string (enc (Nat.gcd a b)), .agg #[.bool (zb x), .string (zs x)], .agg #[.bool (zb y), .string (zs y)], .int .i64 0])) W') := fun x y W' h hB => ⟨x, y, rfl, h.1, h.2.1, h.2.2.1, h.2.2.2, hB⟩
        generalize b / Nat.gcd a b = bg at *
        generalize a / Nat.gcd a b = ag at *
        generalize Nat.gcd a b = g at *
        go_wp2_with fail
        go_cut [88] from 88 (fun s88 wc => (∃ v, s88 = v) ∧ EW w wc p8 p9 (p9 + 1) g 0 (x0 + (bg : Int)) x1 y0 y1)
        case first =>
          have hW7 : EW w w6.drew p8 p9 (p9 + 1) g 0 x0 x1 y0 y1 := hW6.drew
          clear hW6
          have d0 := hW7.x.c0
          have d1 := hW7.x.c1
          go_region_with (first
            | (with_reducible refine (from_z bg _ ZO.out.2.2.1).mono ?_; rintro e w7 ⟨rfl, b7⟩; have hW8 := hW7.below b7; have m0 := hW8.x.c0; have m1 := hW8.x.c1)
            | (with_reducible refine (iadd_z x0 (bg : Int) _ ZQ.out.1 (zok_nat ZO.out.2.2.1) ZO.out.1).mono ?_; rintro e w8 ⟨rfl, b8⟩; have hW9 := hW8.below b8; have n0 := hW9.x.c0; have n1 := hW9.x.c1; have g0 := hW9.x.f 0; have g1 := hW9.x.f 1))
          all_goals
            go_wp2_with fail
            go_meet
            exact ⟨⟨_, rfl⟩, hW9.put9 _⟩
        case rest =>
          obtain ⟨⟨_, rfl⟩, hW7⟩ := hcut
          clear hW6
          go_wp2_with fail
          go_cut [97] from 97 (fun s97 wc => (∃ v, s97 = v) ∧ EW w wc p8 p9 (p9 + 1) g 0 (x0 + (bg : Int)) x1 (y0 - (ag : Int)) y1)
          case first =>
            replace hW7 := hW7.drew
            have d0 := hW7.y.c0
            have d1 := hW7.y.c1
            go_region_with (first
              | (with_reducible refine (from_z ag _ ZO.out.2.2.2).mono ?_; rintro e w7 ⟨rfl, b7⟩; have hW8 := hW7.below b7; have m0 := hW8.y.c0; have m1 := hW8.y.c1)
              | (with_reducible refine (isub_z y0 (ag : Int) _ ZQ.out.2 (zok_nat ZO.out.2.2.2) ZO.out.2.1).mono ?_; rintro e w8 ⟨rfl, b8⟩; have hW9 := hW8.below b8; have n0 := hW9.y.c0; have n1 := hW9.y.c1; have g0 := hW9.y.f 0; have g1 := hW9.y.f 1))
            all_goals
              go_wp2_with fail
              go_meet
              exact ⟨⟨_, rfl⟩, hW9.put10 _⟩
          case rest =>
            obtain ⟨⟨_, rfl⟩, hW8⟩ := hcut
            clear hW7
            have hout := HOUT.out
            clear HOUT ZO ZQ
            generalize x0 + (bg : Int) = x at *
            generalize y0 - (ag : Int) = y at *
            have d0 := hW8.x.c0
            have d1 := hW8.x.c1
            have d4 := hW8.y.c0
            have d5 := hW8.y.c1
            have f0 := hW8.r5.f0
            have f1 := hW8.r5.f1
            have f2 := hW8.r6.f0
            have f3 := hW8.r6.f1
            have k0 := hW8.r5.c0
            have k1 := hW8.r5.c1
            have k2 := hW8.r6.c0
            have k3 := hW8.r6.c1
            have HOUT := Lib.hid hout
            clear hout
            go_wp2_with fail
            go_region
            all_goals
              go_wp2_with fail
              obtain ⟨W', hW', q1, q2, q3⟩ := hW8.out (.bool (zb x)) (.string (zs x)) (.bool (zb y)) (.string (zs y))
              rw [hW']
              exact bodyPost_ext rfl rfl rfl rfl rfl (W := W'.drew) q1 q2 rfl (HFIN.out x y _ HOUT.out q3.drew)
    ·
      -- {{
      have ne1 := toList_enc_nil h0
      have q0 : blen r0 ≤ 128 := by
        rcases hEu.out.q0 with h | h
        · exact Nat.le_trans (blen_mono h) HA.out.le
        · exact Nat.le_trans (blen_mono h) HB.out.le
      have q1 : blen r1 ≤ 128 := Nat.le_trans (blen_mono hEu.out.q1) HB.out.le
      have HR := Lib.hid (And.intro (IsN.mk' q0) (IsN.mk' q1))
      go_wp2_with fail
      refine (DivMod_any _ _ _ _ _ HR.out.1 HR.out.2 h0).mono ?_
      rintro e w5 ⟨rfl, b5⟩
      have hW5 := hW.below b5
      obtain ⟨w6, hw6, hW6, cq, w7, hw7, hW7, cq7, hs7⟩ := hW5.next (r0 / r1) (r0 % r1)
      have k0 := hW6.n.c0
      have k1 := hW6.n.c1
      have k2 := hW6.n.f 0
      have k3 := hW6.n.f 1
      go_wp2_with fail
      have cq8 : w7.drew.cell? ⟨w5.heap.size, 0, none⟩ = some (.string (enc (r0 / r1))) := cq7
      have hW7d : EW w w7.drew p8 p9 (p9 + 1) r1 (r0 % r1) (sg s X0) (sg (!s) X1) (sg (!s) Y0) (sg s Y1) := ⟨hW7.n, hW7.x, hW7.y, hW7.r5, hW7.r6, hW7.b.drew, hW7.o⟩
      have HO : Hid (ZOk (sg s X0) ∧ ZOk (sg (!s) X1) ∧ blen (r0 / r1) ≤ 128 ∧ ZOk (((r0 / r1 : Nat) : Int) * sg (!s) X1) ∧ ZOk (sg s X0 - ((r0 / r1 : Nat) : Int) * sg (!s) X1) ∧
        ZOk (sg (!s) Y0) ∧ ZOk (sg s Y1) ∧ ZOk (((r0 / r1 : Nat) : Int) * sg s Y1) ∧ ZOk (sg (!s) Y0 - ((r0 / r1 : Nat) : Int) * sg s Y1)) := hEu.out.oks h0 HA.out.le HB.out.le
      clear cq cq7 hW6 hW5 hw6 hw7 k0 k1 k2 k3 c0 c1 ne1
      have hstep := hEu.out.step h0
      have hst : ∀ W : World, EW w W p8 p9 (p9 + 1) r1 (r0 % r1) (sg (!s) X1) (sg s X0 - ((r0 / r1 : Nat) : Int) * sg (!s) X1) (sg s Y1) (sg (!s) Y0 - ((r0 / r1 : Nat) : Int) * sg s Y1) →
          ∃ (r0 r1 : Nat) (s : Bool) (X0 X1 Y0 Y1 : Nat), Hid (Euc a b r0 r1 s X0 X1 Y0 Y1) ∧ EW w W p8 p9 (p9 + 1) r0 r1 (sg s X0) (sg (!s) X1) (sg (!s) Y0) (sg s Y1)   := fun W hw => by
        refine ⟨r1, r0 % r1, !s, X1, _, Y1, _, hstep, ?_⟩
        rw [sg_mul, sg_mul, sg_sub] at hw
        have e : sg (!s) Y0 - sg s (r0 / r1 * Y1) = sg (!s) (Y0 + r0 / r1 * Y1) := by
          have := sg_sub (!s) Y0 (r0 / r1 * Y1)
          rwa [Bool.not_not] at this
        rw [e] at hw
        rw [Bool.not_not]
        exact hw
      have hmlt : r0 % r1 < r1 := Nat.mod_lt _ h0
      have hme : ∀ (W : World) (x0 x1 y0 y1 : Int), EW w W p8 p9 (p9 + 1) r1 (r0 % r1) x0 x1 y0 y1 → n2v W p8 < n2v wr p8 := fun W x0 x1 y0 y1 hw => by
        rw [hw.n.val, hW.n.val]; exact hmlt
      have HST := Lib.hid hst
      have HME := Lib.hid hme
      clear hst hme hmlt hstep hW
      generalize sg s X0 = x0 at hW7 hW7d HO HST
      generalize sg (!s) X1 = x1 at hW7 hW7d HO HST
      generalize sg (!s) Y0 = y0 at hW7 hW7d HO HST
      generalize sg s Y1 = y1 at hW7 hW7d HO HST
      have d0 := hW7d.x.c0
      have d1 := hW7d.x.c1
      have d2 := hW7d.x.c2
      have d3 := hW7d.x.c3
      have d4 := hW7d.y.c0
      have d5 := hW7d.y.c1
      have d6 := hW7d.y.c2
      have d7 := hW7d.y.c3
      go_region_with (first
        | (with_reducible refine (ext1_z x0 x1 (r0 / r1) w5.heap.size _ HO.out.1 HO.out.2.1 HO.out.2.2.1 HO.out.2.2.2.1 HO.out.2.2.2.2.1 cq8).mono ?_; rintro e w8 ⟨rfl, b8⟩; have hW8 := hW7d.below b8; have cq9 := (b8.cell (p := ⟨w5.heap.size, 0, none⟩) (World.block_lt_of_cell? _ _ cq8)).trans cq8; have m4 := hW8.y.c0; have m5 := hW8.y.c1; have m6 := hW8.y.c2; have m7 := hW8.y.c3)
        | (with_reducible refine (ext1_z y0 y1 (r0 / r1) w5.heap.size _ HO.out.2.2.2.2.2.1 HO.out.2.2.2.2.2.2.1 HO.out.2.2.1 HO.out.2.2.2.2.2.2.2.1 HO.out.2.2.2.2.2.2.2.2 cq9).mono ?_; rintro e w9 ⟨rfl, b9⟩; have hW9 := hW8.below b9; have n0 := hW9.x.c0; have n1 := hW9.x.c1; have n2 := hW9.x.c2; have n3 := hW9.x.c3; have n4 := hW9.y.c0; have n5 := hW9.y.c1; have n6 := hW9.y.c2; have n7 := hW9.y.c3; have g0 := hW9.x.f 0; have g1 := hW9.x.f 1; have g2 := hW9.x.f 2; have g3 := hW9.x.f 3; have g4 := hW9.y.f 0; have g5 := hW9.y.f 1; have g6 := hW9.y.f 2; have g7 := hW9.y.f 3))
      all_goals
        go_wp2_with fail
        have hF := hW9.store x1 (x0 - ((r0 / r1 : Nat) : Int) * x1) y1 (y0 - ((r0 / r1 : Nat) : Int) * y1)
        exact ⟨HST.out _ hF, HME.out _ _ _ _ _ hF⟩
      -- }}
end Go.Proofs.YtdlbnioidfhhcaaGreat
