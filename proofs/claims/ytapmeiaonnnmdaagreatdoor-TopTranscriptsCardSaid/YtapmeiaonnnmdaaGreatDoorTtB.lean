import Derived.Test.YtapmeiaonnnmdaaGreatDoorTtA
import Derived.Laws.CopyOwn
/- coins.draw at a tape with one value; coins.Signed. -/
namespace Go.Proofs.YtapmeiaonnnmdaaGreatDoor
open Go.RowKit Num
set_option maxRecDepth 20000
set_option linter.unusedVariables false
section
variable {P : Program} {ops : Array Oper} {Q : Exit → Act → World → Prop} {S : World → Prop} {md : Region.Mode}
theorem tkT {oi : Oper} {fuel : Nat} {listed : Array Bool} {a : Act} {w : World} (i d : Nat) (v : Value) (hi : ops[i]? = some oi) (hd : oi.dst = some d)
    (hk : (Region.noSelect ops && (Region.free md ops listed i && (Region.ready md ops listed).contains i)) = true)
    (hQ : ∀ c t u ds w, Q (.panic c) ⟨t, ds⟩ w → Q (.panic c) ⟨u, ds⟩ w) (hy : YieldsIf P ops S oi v a) (hS : S w)
    (h : wpAnyH P md ops Q S fuel (listed.setIfInBounds i true) (a.put (some d) v) w) : wpAnyH P md ops Q S (fuel + 1) listed a w := by
  rw [Bool.and_eq_true, Bool.and_eq_true] at hk
  exact wpAnyH_take hi hk.1 hk.2.1 hk.2.2 (fun c a w h => by rw [hd] at h; exact hQ c (a.put (some d) v).tmps a.tmps a.defers w h) hy hS (by rw [hd]; exact h)
end
theorem put9T (l : List Value) (ds) (i : Nat) (v : Value) : Act.put ⟨⟨l⟩, ds⟩ (some i) v = ⟨⟨l.set i v⟩, ds⟩ := by simp [Act.put]
/-- make([]Nat, n), one operation -/
theorem wp_make_strT (w : World) {o : Oper} {a : Act} {K : Act → World → Prop} {Q : Exit → Act → World → Prop}
    (l c : Operand) (hop : o.op = Op.makeSlice 54 l c) (kl kc : IntKind) (n : Nat) (hl : a.eval l = .int kl (n : Int)) (hc : a.eval c = .int kc (n : Int)) (b3 : n ≤ 1000000)
    (hK : ∀ w', SArr w' w.heap.size n (fun _ => ⟨#[]⟩) → Below w.heap.size w w' → K (a.put o.dst (.slice (some ⟨w.heap.size, 0, none⟩) n n)) w') :
    o.wp Tryz.prog a w K Q := by
  obtain ⟨i, hi, hz0, hz1, hz2⟩ := info_parts info_nat
  have hrun := run_make (P := Tryz.prog) w 54 25 i (.string ⟨#[]⟩) Tryz.underlying54 hi hz0 kl kc n n (by omega) (Int.le_refl _) (by rw [hz2]; omega) (by omega)
  rw [hz1, Nat.mul_one, show (Value.string ⟨#[]⟩).cells = #[Value.string ⟨#[]⟩] from rfl, madeCells_str] at hrun
  simp only [Int.toNat_natCast] at hrun
  unfold Oper.wp
  simp [execOp, hop, hl, hc, hrun, Result.andThen]
  exact hK _ (SArr.new _ _ _) ((Below.refl _ _).alloc (Nat.le_refl _) _)
/-- a tape in a variable -/
def TPB (w : World) (b : Nat) (v0 v1 v2 : Value) : Prop := w.heap[b]? = some (.cells #[v0, v1, v2] 63 (0, 0))
section
variable {w w' : World} {b K : Nat} {v0 v1 v2 : Value}
theorem TPB.lt (h : TPB w b v0 v1 v2) : b < w.heap.size := (Array.getElem?_eq_some_iff.1 h).1
theorem TPB.c0 (h : TPB w b v0 v1 v2) : w.cell? ⟨b, 0, none⟩ = some v0 := by rw [Lib.cell_of_heap h]; rfl
theorem TPB.c1 (h : TPB w b v0 v1 v2) : w.cell? ⟨b, 1, none⟩ = some v1 := by rw [Lib.cell_of_heap h]; rfl
theorem TPB.c2 (h : TPB w b v0 v1 v2) : w.cell? ⟨b, 2, none⟩ = some v2 := by rw [Lib.cell_of_heap h]; rfl
theorem TPB.f (h : TPB w b v0 v1 v2) (i : Nat) : w.frozen? ⟨b, i, none⟩ = false := Lib.frozen_of_heap h i
theorem TPB.below (h : TPB w b v0 v1 v2) (hb : Below K w w') (hK : b < K) : TPB w' b v0 v1 v2 := (hb.block b hK).trans h
theorem TPB.new (w : World) (v0 v1 v2 : Value) : TPB (w.alloc (.cells #[v0, v1, v2] 63)) w.heap.size v0 v1 v2 := heap_alloc_new w _
end
theorem info_tape : (Tryz.prog.info? 63).map (·.size) = some 3 := by kernel_rfl
theorem results_nt {fn : Func} {p u x : Tmp} {ty : TypeId} (h : fn.results = #[.tmp x, .cell p ty, .tmp u]) (tmps : Array Value) (P : Program) (w : World) :
    (results fn tmps).run P w = ((asAddr (tmps.getD p undef)).run P w).andThen fun a w1 => ((loadVar ty a).run P w1).andThen fun v w2 => .ok (.tuple #[tmps.getD x undef, v, tmps.getD u undef]) w2 := by
  simp only [results, h]
  simp [Sem.run_bind, Result.andThen]
/-- a number, a tape in a variable, an error -/
theorem bodyPost_nt {fn : Func} {R : Ending → World → Prop} {p u x : Tmp} {b : Nat} {a : Act} {W : World} {v0 v1 v2 vx vu : Value} (h : fn.results = #[.tmp x, .cell p 63, .tmp u]) (hp : a.tmps.getD p undef = .pointer (some ⟨b, 0, none⟩)) (hx : a.tmps.getD x undef = vx) (hu : a.tmps.getD u undef = vu)
    (hb : TPB W b v0 v1 v2) (hd : a.defers = []) (hR : R (.returned (.tuple #[vx, .agg #[v0, v1, v2], vu])) W) : bodyPost Tryz.prog fn R Exit.ret a W := by
  refine bodyPost_ret (v := .tuple #[vx, .agg #[v0, v1, v2], vu]) (w := W) ?_ hd hR
  rw [results_nt h, hp, hx, hu]
  simp [asAddr, Result.andThen, run_loadVar_row W b _ _ _ (0, 0) _ hb Tryz.underlying63 rfl info_tape]
theorem TPB.put {w : World} {b : Nat} {a0 a1 a2 v0 v1 v2 : Value} (h : TPB w b a0 a1 a2) : TPB (((w.setCell ⟨b, 0, none⟩ v0).setCell ⟨b, 1, none⟩ v1).setCell ⟨b, 2, none⟩ v2) b v0 v1 v2 := put1 (put1 (put1 h))
theorem cell_same {w w' : World} {j : Nat} (h : w'.heap[j]? = w.heap[j]?) (o : Nat) : w'.cell? ⟨j, o, none⟩ = w.cell? ⟨j, o, none⟩ := by simp [World.cell?, h]
theorem put3_other (w : World) (b : Nat) (v0 v1 v2 : Value) (j : Nat) (h : j ≠ b) : (((w.setCell ⟨b, 0, none⟩ v0).setCell ⟨b, 1, none⟩ v1).setCell ⟨b, 2, none⟩ v2).heap[j]? = w.heap[j]? :=
  (Below.heap_setCell _ _ _ j h).trans ((Below.heap_setCell _ _ _ j h).trans (Below.heap_setCell _ _ _ j h))
set_option maxHeartbeats 8000000 in
theorem draw_one (vo : Option Addr) (c : Nat) (X s : ByteArray) (x b : Nat) (w : World) (hL : NS w vo [X]) (hX : IsN X x) (hs : IsN s b) (hlt : x < b) :
    Calls Tryz.prog 50 #[.agg #[.slice vo 1 c, .string ⟨#[]⟩, .int .i64 0], .string s] w fun e w' => ∃ no nc, e = .returned (.tuple #[.string X, .agg #[.slice no 1 nc, .string ⟨#[]⟩, .int .i64 1], .int .i64 0]) ∧ NS w' no [X] ∧ Below w.heap.size w w' := by
  have hb1 := (Below.refl _ w).alloc (Nat.le_refl _) (.cells #[.slice vo 1 c, .string ⟨#[]⟩, .int .i64 0] 63)
  have hb := hb1.alloc hb1.size (.cells #[.slice none 0 0, .string ⟨#[]⟩, .int .i64 0] 63)
  have hP := TPB.new w (.slice vo 1 c) (.string ⟨#[]⟩) (.int .i64 0)
  have hR := TPB.new (w.alloc (.cells #[.slice vo 1 c, .string ⟨#[]⟩, .int .i64 0] 63)) (.slice none 0 0) (.string ⟨#[]⟩) (.int .i64 0)
  have hbR := (Below.refl _ (w.alloc (.cells #[.slice vo 1 c, .string ⟨#[]⟩, .int .i64 0] 63))).alloc (Nat.le_refl _) (.cells #[.slice none 0 0, .string ⟨#[]⟩, .int .i64 0] 63)
  have hP1 := hP.below hbR hP.lt
  rw [World.size_alloc] at hR
  have hvl : ∀ b o, vo = some ⟨b, o, none⟩ → b < w.heap.size := fun b o e => by
    obtain ⟨b', o', e', d⟩ := hL 0 (by simp)
    rw [e] at e'
    cases e'
    exact World.block_lt_of_cell? w _ d
  obtain ⟨vb, vof, rfl, e0⟩ := (hL.keepL (cells_keepL hb (Nat.le_refl _))) 0 (by simp)
  simp only [Nat.add_zero, List.getElem_cons_zero] at e0
  rcases ncmpLt x b with ⟨_, hz⟩ | ⟨h, _⟩
  rotate_left
  · exact absurd hlt h
  have HC := Lib.hid (cmpL hX hs hz)
  have hvb : vb < w.heap.size := hvl vb vof rfl
  clear hL hX hs hz hvl hb1 hP hbR
  go_enter Tryz.func50, Tryz.ntmps50
  go_wp2_with fail
  generalize hw0 : World.alloc (World.alloc w _) _ = w0 at hb hR hP1 e0 ⊢
  clear hw0
  have c0 := hP1.c0
  have c1 := hP1.c1
  have c2 := hP1.c2
  refine (HC.out _).mono ?_; rintro e w1 ⟨rfl, rfl⟩
  go_upto_region 5 with fail
  have hw1 : IntKind.i64.wrap 1 = 1 := by decide
  go_cut [7] from 45 to 54 (fun v7 wc => ∃ (q g : Nat), v7 = .pointer (some ⟨q, 0, none⟩) ∧ TPB wc q (.slice (some ⟨g, 0, none⟩) 1 1) (.string ⟨#[]⟩) (.int .i64 1) ∧ SArr wc g 1 (fun _ => ⟨#[]⟩) ∧ Below w0.heap.size w0 wc ∧ w0.heap.size ≤ g ∧ w0.heap.size ≤ q ∧ q ≠ g)
  case first =>
  -- @R5
    have HMK : Hid (∀ w', Below w0.heap.size w0 w' → w'.cell? ⟨w.heap.size, 0, none⟩ = some (.slice (some ⟨vb, vof, none⟩) 1 c) ∧ w'.cell? ⟨w.heap.size, 1, none⟩ = some (.string ⟨#[]⟩) ∧ w'.cell? ⟨w.heap.size, 2, none⟩ = some (.int .i64 0)) := fun w' hb' => ⟨cells_keepL hb' (Nat.le_refl _) _ _ c0, cells_keepL hb' (Nat.le_refl _) _ _ c1, cells_keepL hb' (Nat.le_refl _) _ _ c2⟩
    refine wp_region_held_drew (S := fun w' => w'.cell? ⟨w.heap.size, 0, none⟩ = some (.slice (some ⟨vb, vof, none⟩) 1 c) ∧ w'.cell? ⟨w.heap.size, 1, none⟩ = some (.string ⟨#[]⟩) ∧ w'.cell? ⟨w.heap.size, 2, none⟩ = some (.int .i64 0)) (by kernel_rfl) (HMK.out _ (Below.refl _ w0).drew) (fun hS0 => ?_)
    refine tkT 0 45 (.pointer (some ⟨w.heap.size, 0, none⟩)) rfl rfl (by kernel_rfl) (fun _ _ _ _ _ h => h) (.inl ⟨by rfl, fun w' hSw => (by go_simp)⟩) (by assumption) ?_
    try simp only [put9T, List.set]
    refine tkT 1 46 (.slice (some ⟨vb, vof, none⟩) 1 c) rfl rfl (by kernel_rfl) (fun _ _ _ _ _ h => h) (.inl ⟨by rfl, fun w' hSw => (by obtain ⟨g0, g1, g2⟩ := hSw; go_simp)⟩) (by assumption) ?_
    try simp only [put9T, List.set]
    refine tkT 2 47 (.int .i64 1) rfl rfl (by kernel_rfl) (fun _ _ _ _ _ h => h) (.inl ⟨by rfl, fun w' hSw => (by go_simp)⟩) (by assumption) ?_
    try simp only [put9T, List.set]
    refine tkT 4 49 (.pointer (some ⟨w.heap.size, 1, none⟩)) rfl rfl (by kernel_rfl) (fun _ _ _ _ _ h => h) (.inl ⟨by rfl, fun w' hSw => (by go_simp)⟩) (by assumption) ?_
    try simp only [put9T, List.set]
    refine tkT 5 50 (.string ⟨#[]⟩) rfl rfl (by kernel_rfl) (fun _ _ _ _ _ h => h) (.inl ⟨by rfl, fun w' hSw => (by obtain ⟨g0, g1, g2⟩ := hSw; go_simp)⟩) (by assumption) ?_
    try simp only [put9T, List.set]
    refine tkT 6 51 (.pointer (some ⟨w.heap.size, 2, none⟩)) rfl rfl (by kernel_rfl) (fun _ _ _ _ _ h => h) (.inl ⟨by rfl, fun w' hSw => (by go_simp)⟩) (by assumption) ?_
    try simp only [put9T, List.set]
    refine tkT 7 52 (.int .i64 0) rfl rfl (by kernel_rfl) (fun _ _ _ _ _ h => h) (.inl ⟨by rfl, fun w' hSw => (by obtain ⟨g0, g1, g2⟩ := hSw; go_simp)⟩) (by assumption) ?_
    try simp only [put9T, List.set]
    refine tkT 8 53 (.int .i64 1) rfl rfl (by kernel_rfl) (fun _ _ _ _ _ h => h) (.inl ⟨by rfl, fun w' hSw => (by go_simp)⟩) (by assumption) ?_
    try simp only [put9T, List.set]
    have b0 : Below w0.heap.size w0 w0.drew := (Below.refl _ w0).drew
    generalize w0.drew = W0 at hS0 b0 ⊢
    refine wpAnyH_ready (rs := [3, 10]) (by kernel_rfl) (by simp) ?_
    refine AllReadyH.cons rfl (fun K hK => ?_) (AllReadyH.cons rfl (fun K hK => ?_) AllReadyH.nil)
    · rw [if_pos (by rfl)]
      refine wp_make_strT W0 (.tmp 47) (.tmp 47) (by rfl) .i64 .i64 1 (by rfl) (by rfl) (by omega) ?_
      intro W1 hA bn
      have b1 := b0.trans (bn.mono b0.size)
      have hg0 : w0.heap.size ≤ W0.heap.size := b0.size
      generalize W0.heap.size = g at hA hg0 ⊢
      refine hK.out _ _ (HMK.out _ b1) (fun hT => ?_)
      clear hK hS0 bn b0
      try simp only [put9T, List.set]
      refine tkT 9 54 (.agg #[.slice (some ⟨g, 0, none⟩) 1 1, .string ⟨#[]⟩, .int .i64 1]) rfl rfl (by kernel_rfl) (fun _ _ _ _ _ h => h) (.inl ⟨by rfl, fun w' hSw => (by go_simp)⟩) (by assumption) ?_
      try simp only [put9T, List.set]
      clear hT
      refine wpAnyH_ready (rs := [10]) (by kernel_rfl) (by simp) ?_
      refine AllReadyH.cons rfl (fun K hK => ?_) AllReadyH.nil
      rw [if_pos (by rfl)]
      go_simp
      have b2 := b1.alloc b1.size (.cells #[.slice none 0 0, .string ⟨#[]⟩, .int .i64 0] 63)
      refine hK.out _ _ (HMK.out _ b2) (fun hT => ?_)
      clear hK hT
      try simp only [put9T, List.set]
      have hz := TPB.new W1 (.slice none 0 0) (.string ⟨#[]⟩) (.int .i64 0)
      have z0 := hz.c0
      have z1 := hz.c1
      have z2 := hz.c2
      have y0 := hz.f 0
      have y1 := hz.f 1
      have y2 := hz.f 2
      refine wpAnyH_ready (rs := [11]) (by kernel_rfl) (by simp) ?_
      refine AllReadyH.cons rfl (fun K hK => ?_) AllReadyH.nil
      rw [if_pos (by rfl)]
      go_simp
      have b3 := b1.alloc b1.size (.cells #[.slice (some ⟨g, 0, none⟩) 1 1, .string ⟨#[]⟩, .int .i64 1] 63)
      refine hK.out _ _ (HMK.out _ b3) (fun hT => ?_)
      clear hK hT z0 z1 z2 y0 y1 y2 hz b2
      try simp only [put9T, List.set]
      refine wpAnyH_done (by kernel_rfl) ?_ _
      have hT7 := TPB.new W1 (.slice (some ⟨g, 0, none⟩) 1 1) (.string ⟨#[]⟩) (.int .i64 1)
      have hA7 := hA.below ((Below.refl _ W1).alloc (Nat.le_refl _) (.cells #[.slice (some ⟨g, 0, none⟩) 1 1, .string ⟨#[]⟩, .int .i64 1] 63)) hA.lt
      have hqq : w0.heap.size ≤ W1.heap.size := b1.size
      have hqg : W1.heap.size ≠ g := fun e => by have := hA.lt; omega
      generalize W1.heap.size = q at hT7 hqq hqg ⊢
      generalize hw : World.alloc W1 _ = W2 at hT7 hA7 b3 ⊢
      clear hw hA b1 W1
      go_wp2_with fail
      go_meet
      exact ⟨q, g, rfl, hT7, hA7, b3, hg0, hqq, hqg⟩
    · rw [if_pos (by rfl)]
      go_simp
      have b2 := b0.alloc b0.size (.cells #[.slice none 0 0, .string ⟨#[]⟩, .int .i64 0] 63)
      have hz := TPB.new W0 (.slice none 0 0) (.string ⟨#[]⟩) (.int .i64 0)
      refine hK.out _ _ (HMK.out _ b2) (fun hT => ?_)
      clear hK hT hS0
      try simp only [put9T, List.set]
      have hq0 : w0.heap.size ≤ W0.heap.size := b0.size
      generalize W0.heap.size = q at hz hq0 ⊢
      generalize hw : World.alloc W0 _ = W1 at hz b2 ⊢
      clear hw b0
      refine wpAnyH_ready (rs := [3]) (by kernel_rfl) (by simp) ?_
      refine AllReadyH.cons rfl (fun K hK => ?_) AllReadyH.nil
      rw [if_pos (by rfl)]
      refine wp_make_strT W1 (.tmp 47) (.tmp 47) (by rfl) .i64 .i64 1 (by rfl) (by rfl) (by omega) ?_
      intro W2 hA bn
      have b1 := b2.trans (bn.mono b2.size)
      have hz1 := hz.below bn hz.lt
      have hgq : W1.heap.size ≠ q := fun e => by have := hz.lt; omega
      have hgg : w0.heap.size ≤ W1.heap.size := b2.size
      generalize W1.heap.size = g at hA hgq hgg ⊢
      refine hK.out _ _ (HMK.out _ b1) (fun hT => ?_)
      clear hK bn b2 hz
      try simp only [put9T, List.set]
      refine tkT 9 54 (.agg #[.slice (some ⟨g, 0, none⟩) 1 1, .string ⟨#[]⟩, .int .i64 1]) rfl rfl (by kernel_rfl) (fun _ _ _ _ _ h => h) (.inl ⟨by rfl, fun w' hSw => (by go_simp)⟩) (by assumption) ?_
      try simp only [put9T, List.set]
      clear hT
      have z0 := hz1.c0
      have z1 := hz1.c1
      have z2 := hz1.c2
      have y0 := hz1.f 0
      have y1 := hz1.f 1
      have y2 := hz1.f 2
      refine wpAnyH_ready (rs := [11]) (by kernel_rfl) (by simp) ?_
      refine AllReadyH.cons rfl (fun K hK => ?_) AllReadyH.nil
      rw [if_pos (by rfl)]
      go_simp
      have hT7 : TPB (((W2.setCell ⟨q, 0, none⟩ (.slice (some ⟨g, 0, none⟩) 1 1)).setCell ⟨q, 1, none⟩ (.string ⟨#[]⟩)).setCell ⟨q, 2, none⟩ (.int .i64 1)) q (.slice (some ⟨g, 0, none⟩) 1 1) (.string ⟨#[]⟩) (.int .i64 1) := put1 (put1 (put1 hz1))
      have hA7 : SArr (((W2.setCell ⟨q, 0, none⟩ (.slice (some ⟨g, 0, none⟩) 1 1)).setCell ⟨q, 1, none⟩ (.string ⟨#[]⟩)).setCell ⟨q, 2, none⟩ (.int .i64 1)) g 1 (fun _ => ⟨#[]⟩) := (Below.heap_setCell _ _ _ g hgq).trans ((Below.heap_setCell _ _ _ g hgq).trans ((Below.heap_setCell _ _ _ g hgq).trans hA))
      have b3 := ((b1.setCell (p := ⟨q, 0, none⟩) hq0 (.slice (some ⟨g, 0, none⟩) 1 1)).setCell (p := ⟨q, 1, none⟩) hq0 (.string ⟨#[]⟩)).setCell (p := ⟨q, 2, none⟩) hq0 (.int .i64 1)
      refine hK.out _ _ (HMK.out _ b3) (fun hT => ?_)
      clear hK hT z0 z1 z2 y0 y1 y2
      try simp only [put9T, List.set]
      refine wpAnyH_done (by kernel_rfl) ?_ _
      go_wp2_with fail
      go_meet
      exact ⟨q, g, rfl, hT7, hA7, b3, hgg, hq0, Ne.symm hgq⟩
  -- @@R5
  case rest =>
    obtain ⟨q, g, rfl, hT, hA, hB, hg, hq, hqg⟩ := hcut
    rename World => wc
    have d0 := cells_keepL hB (Nat.le_refl _) _ _ c0
    have d1 := cells_keepL hB (Nat.le_refl _) _ _ c1
    have d2 := cells_keepL hB (Nat.le_refl _) _ _ c2
    have d3 := cells_keepL hB (Nat.le_refl _) _ _ e0
    have t0 := hT.c0
    have t1 := hT.c1
    have t2 := hT.c2
    have a0 := hA.cell (show 0 < 1 by omega)
    have af := hA.free 0
    have hA1 : wc.heap[g]? = some (.cells #[.string ⟨#[]⟩] 25 (0, 0)) := by
      have h := hA
      unfold SArr at h
      rw [show scells 1 (fun _ => (⟨#[]⟩ : ByteArray)) = #[.string ⟨#[]⟩] by simp [scells]; exact ⟨0, by decide⟩] at h
      exact h
    have hsrc : ∀ (j : Nat) (v : Value), [Value.string X][j]? = some v → wc.cell? ((⟨vb, vof, none⟩ : Addr).add j) = some v := fun j v hv => by
      cases j with
      | zero => injection hv with hv; rw [← hv]; exact d3
      | succ j => simp at hv
    have hcp := run_copy_row (P := Tryz.prog) wc 54 54 3 25 g 0 1 1 ⟨vb, vof, none⟩ 1 c #[.string ⟨#[]⟩] 25 [.string X] Tryz.underlying54 (by kernel_rfl) hA1 rfl hsrc (by simp) (by simp [Value.oneCell'])
    simp only [List.take_zero, List.nil_append, List.length_singleton, Nat.zero_add, List.singleton_append, List.drop_succ_cons, List.drop_nil] at hcp
    have hB8 : Below w0.heap.size w0 (wc.setRow g #[.string X]) := below_setRow hB hg _
    have k0 := cells_keepL hB8 (Nat.le_refl _) _ _ c0
    have k1 := cells_keepL hB8 (Nat.le_refl _) _ _ c1
    have k2 := cells_keepL hB8 (Nat.le_refl _) _ _ c2
    have k3 := cells_keepL hB8 (Nat.le_refl _) _ _ e0
    have hT8 : TPB (wc.setRow g #[.string X]) q (.slice (some ⟨g, 0, none⟩) 1 1) (.string ⟨#[]⟩) (.int .i64 1) := (setRow_other wc g q _ hqg).trans hT
    have hA8 : (wc.setRow g #[.string X]).heap[g]? = some (.cells #[.string X] 25 (0, 0)) := setRow_heap wc g _ _ _ _ hA1
    go_upto_region 8 with fail
    have hb0 : w0.heap.size ≤ wc.heap.size := hB.size
    have q0 := hT8.c0
    have q1 := hT8.c1
    have q2 := hT8.c2
    have hR8 := hR.below hB8 hR.lt
    have hRl : w.heap.size + 1 < w0.heap.size := hR.lt
    generalize wc.setRow g #[.string X] = wd at hB8 k0 k1 k2 k3 hT8 hA8 q0 q1 q2 hR8 ⊢
    clear hT hA a0 af hA1 hsrc hcp d0 d1 d2 d3 t0 t1 t2 hB hb0 HC
    refine wp_region_held_drew (S := fun w' => w'.cell? ⟨w.heap.size, 0, none⟩ = some (.slice (some ⟨vb, vof, none⟩) 1 c) ∧ w'.cell? ⟨w.heap.size, 2, none⟩ = some (.int .i64 0) ∧ w'.cell? ⟨vb, vof, none⟩ = some (.string X) ∧ TPB w' q (.slice (some ⟨g, 0, none⟩) 1 1) (.string ⟨#[]⟩) (.int .i64 1)) (by kernel_rfl) ⟨k0, k2, k3, hT8⟩ (fun hS0 => ?_)
    refine tkT 0 66 (.pointer (some ⟨w.heap.size, 0, none⟩)) rfl rfl (by kernel_rfl) (fun _ _ _ _ _ h => h) (.inl ⟨by rfl, fun w' hSw => (by go_simp)⟩) (by assumption) ?_
    try simp only [put9T, List.set]
    refine tkT 1 67 (.slice (some ⟨vb, vof, none⟩) 1 c) rfl rfl (by kernel_rfl) (fun _ _ _ _ _ h => h) (.inl ⟨by rfl, fun w' hSw => (by obtain ⟨g0, g2, g3, g4⟩ := hSw; go_simp)⟩) (by assumption) ?_
    try simp only [put9T, List.set]
    refine tkT 2 68 (.pointer (some ⟨w.heap.size, 2, none⟩)) rfl rfl (by kernel_rfl) (fun _ _ _ _ _ h => h) (.inl ⟨by rfl, fun w' hSw => (by go_simp)⟩) (by assumption) ?_
    try simp only [put9T, List.set]
    refine tkT 3 69 (.int .i64 0) rfl rfl (by kernel_rfl) (fun _ _ _ _ _ h => h) (.inl ⟨by rfl, fun w' hSw => (by obtain ⟨g0, g2, g3, g4⟩ := hSw; go_simp)⟩) (by assumption) ?_
    try simp only [put9T, List.set]
    refine tkT 4 70 (.pointer (some ⟨vb, vof, none⟩)) rfl rfl (by kernel_rfl) (fun _ _ _ _ _ h => h) (.inl ⟨by rfl, fun w' hSw => (by go_simp)⟩) (by assumption) ?_
    try simp only [put9T, List.set]
    refine tkT 5 71 (.string X) rfl rfl (by kernel_rfl) (fun _ _ _ _ _ h => h) (.inl ⟨by rfl, fun w' hSw => (by obtain ⟨g0, g2, g3, g4⟩ := hSw; go_simp)⟩) (by assumption) ?_
    try simp only [put9T, List.set]
    refine tkT 6 72 (.agg #[.slice (some ⟨g, 0, none⟩) 1 1, .string ⟨#[]⟩, .int .i64 1]) rfl rfl (by kernel_rfl) (fun _ _ _ _ _ h => h) (.inl ⟨by rfl, fun w' hSw => (by obtain ⟨g0, g2, g3, g4⟩ := hSw; have z0 := g4.c0; have z1 := g4.c1; have z2 := g4.c2; go_simp)⟩) (by assumption) ?_
    try simp only [put9T, List.set]
    refine tkT 7 4 (.string X) rfl rfl (by kernel_rfl) (fun _ _ _ _ _ h => h) (.inl ⟨by rfl, fun w' hSw => (by go_simp)⟩) (by assumption) ?_
    try simp only [put9T, List.set]
    have hRd : TPB wd.drew (w.heap.size + 1) (.slice none 0 0) (.string ⟨#[]⟩) (.int .i64 0) := hR8
    have hBd : Below w0.heap.size w0 wd.drew := hB8.drew
    have hAd : wd.drew.heap[g]? = some (.cells #[.string X] 25 (0, 0)) := hA8
    generalize wd.drew = we at hS0 hRd hBd hAd ⊢
    have z0 := hRd.c0
    have z1 := hRd.c1
    have z2 := hRd.c2
    have y0 := hRd.f 0
    have y1 := hRd.f 1
    have y2 := hRd.f 2
    refine wpAnyH_ready (rs := [8]) (by kernel_rfl) (by simp) ?_
    refine AllReadyH.cons rfl (fun K hK => ?_) AllReadyH.nil
    rw [if_pos (by rfl)]
    go_simp
    have hT9 := hRd.put (v0 := .slice (some ⟨g, 0, none⟩) 1 1) (v1 := .string ⟨#[]⟩) (v2 := .int .i64 1)
    have hoth := put3_other we (w.heap.size + 1) (.slice (some ⟨g, 0, none⟩) 1 1) (.string ⟨#[]⟩) (.int .i64 1)
    have hBt : Below w.heap.size w (((we.setCell ⟨w.heap.size + 1, 0, none⟩ (.slice (some ⟨g, 0, none⟩) 1 1)).setCell ⟨w.heap.size + 1, 1, none⟩ (.string ⟨#[]⟩)).setCell ⟨w.heap.size + 1, 2, none⟩ (.int .i64 1)) := (((hb.trans (hBd.mono hb.size)).setCell (p := ⟨w.heap.size + 1, 0, none⟩) (Nat.le_succ _) _).setCell (p := ⟨w.heap.size + 1, 1, none⟩) (Nat.le_succ _) _).setCell (p := ⟨w.heap.size + 1, 2, none⟩) (Nat.le_succ _) _
    have hS0' := hS0
    obtain ⟨g0, g2, g3, g4⟩ := hS0'
    have hgw : g ≠ w.heap.size + 1 := by omega
    refine hK.out _ _ ⟨(cell_same (hoth w.heap.size (by omega)) _).trans g0, (cell_same (hoth w.heap.size (by omega)) _).trans g2, (cell_same (hoth vb (by omega)) _).trans g3, (hoth q (by omega)).trans g4⟩ (fun hT => ?_)
    clear hK hS0 g0 g2 g3 g4
    have hA9 := (hoth g hgw).trans hAd
    generalize (((we.setCell _ _).setCell _ _).setCell _ _) = wf at hT hT9 hBt hA9 ⊢
    clear hoth
    try simp only [put9T, List.set]
    refine tkT 9 6 (.int .i64 0) rfl rfl (by kernel_rfl) (fun _ _ _ _ _ h => h) (.inl ⟨by rfl, fun w' hSw => (by go_simp)⟩) (by assumption) ?_
    try simp only [put9T, List.set]
    refine wpAnyH_done (by kernel_rfl) ?_ _
    go_wp2_with fail
    refine bodyPost_nt rfl rfl rfl rfl hT9 rfl ?_
    refine ⟨_, _, rfl, fun k hk => ?_, hBt⟩
    obtain rfl : k = 0 := by simp at hk; omega
    exact ⟨g, 0, rfl, by rw [Lib.cell_of_heap hA9]; rfl⟩
end Go.Proofs.YtapmeiaonnnmdaaGreatDoor
