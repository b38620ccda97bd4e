/- integer.Extended: the closure of a step. -/
import Derived.Test.YtdlbnioidfhhcaaGreatInt
namespace Go.Proofs.YtdlbnioidfhhcaaGreat
open Go.RowKit Num
set_option maxRecDepth 20000
set_option linter.unusedVariables false
/-- two integers in a row -/
def Z2 (W : World) (b : Nat) (x y : Int) : Prop := W.heap[b]? = some (.cells #[.bool (zb x), .string (zs x), .bool (zb y), .string (zs y)] 149 (0, 0))
section
variable {W W' : World} {b : Nat} {x y : Int}
theorem Z2.lt (h : Z2 W b x y) : b < W.heap.size := (Array.getElem?_eq_some_iff.1 h).1
theorem Z2.c0 (h : Z2 W b x y) : W.cell? ⟨b, 0, none⟩ = some (.bool (zb x)) := by rw [Lib.cell_of_heap h]; rfl
theorem Z2.c1 (h : Z2 W b x y) : W.cell? ⟨b, 1, none⟩ = some (.string (zs x)) := by rw [Lib.cell_of_heap h]; rfl
theorem Z2.c2 (h : Z2 W b x y) : W.cell? ⟨b, 2, none⟩ = some (.bool (zb y)) := by rw [Lib.cell_of_heap h]; rfl
theorem Z2.c3 (h : Z2 W b x y) : W.cell? ⟨b, 3, none⟩ = some (.string (zs y)) := by rw [Lib.cell_of_heap h]; rfl
theorem Z2.f (h : Z2 W b x y) (j : Nat) : W.frozen? ⟨b, j, none⟩ = false := Lib.frozen_of_heap h j
theorem Z2.new (W : World) (x y : Int) : Z2 (W.alloc (.cells #[.bool (zb x), .string (zs x), .bool (zb y), .string (zs y)] 149)) W.heap.size x y := heap_alloc_new W _
theorem Z2.alloc (h : Z2 W b x y) (o : Obj) : Z2 (W.alloc o) b x y := (Below.heap_alloc W o b h.lt).trans h
theorem Z2.below {B : Nat} (h : Z2 W b x y) (hb : Below B W W') (hB : b < B) : Z2 W' b x y := (hb.block b hB).trans h
theorem Z2.drew (h : Z2 W b x y) : Z2 W.drew b x y := h
end
section
variable {W : World} {b : Nat}
theorem put4 {a0 a1 a2 a3 v0 v1 v2 v3 : Value} {t : TypeId} (h : W.heap[b]? = some (.cells #[a0, a1, a2, a3] t (0, 0))) :
    ((((W.setCell ⟨b, 0, none⟩ v0).setCell ⟨b, 1, none⟩ v1).setCell ⟨b, 2, none⟩ v2).setCell ⟨b, 3, none⟩ v3).heap[b]? = some (.cells #[v0, v1, v2, v3] t (0, 0)) := put1 (put1 (put1 (put1 h)))
theorem info_pair : (Tryz.prog.info? 149).map (·.size) = some 4 := by kernel_rfl
theorem bodyPost_pair {fn : Func} {R : Ending → World → Prop} {p : Tmp} {a : Act} {v0 v1 v2 v3 : Value} (h : fn.results = #[.cell p 149]) (hp : a.tmps.getD p undef = .pointer (some ⟨b, 0, none⟩))
    (hb : W.heap[b]? = some (.cells #[v0, v1, v2, v3] 149 (0, 0))) (hd : a.defers = []) (hR : R (.returned (.agg #[v0, v1, v2, v3])) W) : bodyPost Tryz.prog fn R Exit.ret a W :=
  bodyPost_ret (results_cell_row h _ _ b _ _ (0, 0) _ hp hb Tryz.underlying149 rfl info_pair) hd hR
end
/-- what the step keeps on the way -/
structure St (x y : Int) (q bq : Nat) (w W : World) : Prop where
  z : Z2 W w.heap.size x y
  r : Z2 W (w.heap.size + 1) 0 0
  c : W.cell? ⟨bq, 0, none⟩ = some (.string (enc q))
  b : Below w.heap.size w W
  l : bq < w.heap.size
theorem zok_nat {q : Nat} (h : blen q ≤ 128) : ZOk (q : Int) := h
theorem zs0 : zs 0 = ⟨#[]⟩ := by unfold zs; decide +kernel
section
variable {x y : Int} {q bq : Nat} {w W W' : World}
theorem St.below (h : St x y q bq w W) (hb : Below W.heap.size W W') : St x y q bq w W' :=
  ⟨h.z.below hb h.z.lt, h.r.below hb h.r.lt, (hb.cell (p := ⟨bq, 0, none⟩) (World.block_lt_of_cell? W _ h.c)).trans h.c, h.b.trans (hb.mono h.b.size), h.l⟩
theorem St.alloc (h : St x y q bq w W) (o : Obj) : St x y q bq w (W.alloc o) := h.below ((Below.refl _ W).alloc (Nat.le_refl _) o)
theorem St.put (h : St x y q bq w W) {b : Nat} (hb : w.heap.size + 1 < b) (u v : Value) : St x y q bq w ((W.setCell ⟨b, 0, none⟩ u).setCell ⟨b, 1, none⟩ v) := by
  have e : ∀ k, k ≠ b → ((W.setCell ⟨b, 0, none⟩ u).setCell ⟨b, 1, none⟩ v).heap[k]? = W.heap[k]? := fun k hk => (Below.heap_setCell _ _ _ _ hk).trans (Below.heap_setCell _ _ _ _ hk)
  have hl := h.l
  refine ⟨(e _ (by omega)).trans h.z, (e _ (by omega)).trans h.r, ?_, (h.b.setCell (p := ⟨b, 0, none⟩) (by show _ ≤ b; omega) _).setCell (p := ⟨b, 1, none⟩) (by show _ ≤ b; omega) _, hl⟩
  rw [← h.c]
  unfold World.cell?
  rw [show ((W.setCell ⟨b, 0, none⟩ u).setCell ⟨b, 1, none⟩ v).heap[(⟨bq, 0, none⟩ : Addr).block]? = _ from e bq (by omega)]
theorem St.start (x y : Int) (q bq : Nat) (w : World) (hc : w.cell? ⟨bq, 0, none⟩ = some (.string (enc q))) :
    St x y q bq w ((w.alloc (.cells #[.bool (zb x), .string (zs x), .bool (zb y), .string (zs y)] 149)).alloc (.cells #[.bool false, .string ⟨#[]⟩, .bool false, .string ⟨#[]⟩] 149)).drew := by
  have hl : bq < w.heap.size := World.block_lt_of_cell? w _ hc
  have hb : Below w.heap.size w ((w.alloc (.cells #[.bool (zb x), .string (zs x), .bool (zb y), .string (zs y)] 149)).alloc (.cells #[.bool false, .string ⟨#[]⟩, .bool false, .string ⟨#[]⟩] 149)).drew :=
    (((Below.refl _ w).alloc (Nat.le_refl _) _).alloc (by simp) _).drew
  refine ⟨((Z2.new w x y).alloc _).drew, ?_, (hb.cell (p := ⟨bq, 0, none⟩) hl).trans hc, hb, hl⟩
  have := Z2.new (w.alloc (.cells #[.bool (zb x), .string (zs x), .bool (zb y), .string (zs y)] 149)) 0 0
  rw [World.size_alloc, zs0] at this
  exact this.drew
end
set_option maxHeartbeats 4000000 in
theorem ext1_z (x y : Int) (q : Nat) (bq : Nat) (w : World) (hx : ZOk x) (hy : ZOk y) (hq : blen q ≤ 128) (hp : ZOk ((q : Int) * y)) (hz : ZOk (x - (q : Int) * y)) (hc : w.cell? ⟨bq, 0, none⟩ = some (.string (enc q))) :
    Calls Tryz.prog 96 #[.agg #[.bool (zb x), .string (zs x), .bool (zb y), .string (zs y)], .pointer (some ⟨bq, 0, none⟩)] w fun e w' => e = .returned (.agg #[.bool (zb y), .string (zs y), .bool (zb (x - (q : Int) * y)), .string (zs (x - (q : Int) * y))]) ∧ Below w.heap.size w w' := by
  have HX := Lib.hid hx
  have HY := Lib.hid hy
  have HQ := Lib.hid hq
  have HP := Lib.hid hp
  have HZ := Lib.hid hz
  have hbq : bq < w.heap.size := World.block_lt_of_cell? w _ hc
  clear hx hy hq hp hz
  go_enter Tryz.func96, Tryz.ntmps96
  go_wp2_with fail
  have hz0 : zb 0 = false := rfl
  have s1 : St x y q bq w ((w.alloc (.cells #[.bool (zb x), .string (zs x), .bool (zb y), .string (zs y)] 149)).alloc (.cells #[.bool false, .string ⟨#[]⟩, .bool false, .string ⟨#[]⟩] 149)).drew := St.start x y q bq w hc
  generalize hw1 : World.alloc _ _ = w1 at s1 ⊢
  clear hw1
  go_cut [4, 5] from 8 (fun s4 s5 wc => ∃ b : Nat, s4 = .pointer (some ⟨b, 0, none⟩) ∧ ZBox wc b ((q : Int) * y) ∧ St x y q bq w wc)
  case first =>
    have c0 := s1.z.c0
    have c1 := s1.z.c1
    have c2 := s1.z.c2
    have c3 := s1.z.c3
    have c4 := s1.c
    have t1 := s1.alloc (.cells #[.bool false, .string ⟨#[]⟩] 50)
    have a0 : (w1.alloc (.cells #[.bool false, .string ⟨#[]⟩] 50)).drew.cell? ⟨w.heap.size, 2, none⟩ = some (.bool (zb y)) := t1.z.c2
    have a1 : (w1.alloc (.cells #[.bool false, .string ⟨#[]⟩] 50)).drew.cell? ⟨w.heap.size, 3, none⟩ = some (.string (zs y)) := t1.z.c3
    have a2 : (w1.alloc (.cells #[.bool false, .string ⟨#[]⟩] 50)).drew.cell? ⟨bq, 0, none⟩ = some (.string (enc q)) := t1.c
    have a3 : (w1.alloc (.cells #[.bool false, .string ⟨#[]⟩] 50)).cell? ⟨w.heap.size, 2, none⟩ = some (.bool (zb y)) := t1.z.c2
    have a4 : (w1.alloc (.cells #[.bool false, .string ⟨#[]⟩] 50)).cell? ⟨w.heap.size, 3, none⟩ = some (.string (zs y)) := t1.z.c3
    have a5 : (w1.alloc (.cells #[.bool false, .string ⟨#[]⟩] 50)).cell? ⟨bq, 0, none⟩ = some (.string (enc q)) := t1.c
    go_region_with (first
      | (refine (from_z q _ HQ.out).mono ?_; rintro e w3 ⟨rfl, b3⟩; (first | have s3 := s1.below b3 | have s3 := (s1.alloc _).below b3); (first | (have r3 : RBox w3 w1.heap.size := (RBox.new w1).drew.below b3 (RBox.new w1).lt) | skip); have d2 := s3.z.c2; have d3 := s3.z.c3; have t3 := s3.alloc (.cells #[.bool false, .string ⟨#[]⟩] 50); have g2 := t3.z.c2; have g3 := t3.z.c3)
      | (refine (imul_z (q : Int) y _ (zok_nat HQ.out) HY.out HP.out).mono ?_; rintro e w4 ⟨rfl, b4⟩; (first | have s4 := s3.below b4 | have s4 := (s3.alloc _).below b4); (first | have r4 := r3.below b4 r3.lt | have r4 := (RBox.new _).below b4 (by simp) | have r4 := trivial); (first | (have f0 := r4.f0; have f1 := r4.f1; have e0 := r4.c0; have e1 := r4.c1) | skip)))
    all_goals (go_wp2_with fail; go_meet)
    all_goals first
      | exact ⟨_, rfl, put2 r4, s4.put (by have := s1.r.lt; have := s3.r.lt; simp at *; omega) _ _⟩
      | exact ⟨_, rfl, ZBox.new _ _, s4.alloc _⟩
  case rest =>
    obtain ⟨b, rfl, hb, hs⟩ := hcut
    have c0 := hs.z.c0
    have c1 := hs.z.c1
    have c2 := hb.c0
    have c3 := hb.c1
    go_wp2_with fail
    refine (isub_z x _ _ HX.out HP.out HZ.out).mono ?_
    rintro e w5 ⟨rfl, b5⟩
    have hs5 := hs.below b5
    obtain ⟨w6, hw6, hs6, hb6⟩ : ∃ w6, w5.alloc (.cells #[.bool (zb (x - (q : Int) * y)), .string (zs (x - (q : Int) * y))] 50) = w6 ∧ St x y q bq w w6 ∧ ZBox w6 w5.heap.size (x - (q : Int) * y) := ⟨_, rfl, hs5.alloc _, ZBox.new _ _⟩
    have f0 := hs6.r.f 0
    have f1 := hs6.r.f 1
    have f2 := hs6.r.f 2
    have f3 := hs6.r.f 3
    have k0 := hs6.r.c0
    have k1 := hs6.r.c1
    have k2 := hs6.r.c2
    have k3 := hs6.r.c3
    have d0 := hs6.z.c0
    have d1 := hs6.z.c1
    have d2 := hs6.z.c2
    have d3 := hs6.z.c3
    have e0 := hb6.c0
    have e1 := hb6.c1
    go_wp2_with fail
    refine bodyPost_pair rfl rfl (put4 hs6.r) rfl ⟨rfl, ?_⟩
    have hl := hs6.l
    exact (((hs6.b.setCell (p := ⟨w.heap.size + 1, 0, none⟩) (by simp) _).setCell (p := ⟨w.heap.size + 1, 1, none⟩) (by simp) _).setCell (p := ⟨w.heap.size + 1, 2, none⟩) (by simp) _).setCell (p := ⟨w.heap.size + 1, 3, none⟩) (by simp) _
end Go.Proofs.YtdlbnioidfhhcaaGreat
