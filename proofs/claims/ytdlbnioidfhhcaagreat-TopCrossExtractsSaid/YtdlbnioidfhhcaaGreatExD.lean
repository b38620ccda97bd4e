import Derived.Test.YtdlbnioidfhhcaaGreatVrA
/- extractor.Differences. -/
namespace Go.Proofs.YtdlbnioidfhhcaaGreat
open Go.RowKit Num
set_option maxRecDepth 20000
set_option linter.unusedVariables false
/-- some Boolean -/
def BLQ (w : World) : Ending → World → Prop := fun e w' => ∃ b : Bool, e = .returned (.bool b) ∧ Below w.heap.size w w'
theorem BLQ.mk {w w' : World} {e : Ending} (b : Bool) (he : e = .returned (.bool b)) (hb : Below w.heap.size w w') : BLQ w e w' := ⟨b, he, hb⟩
theorem Below.drewNX (B : Nat) (w : World) (n : Nat) : Below B w (w.drewN n) := ⟨rfl, rfl, rfl, Nat.le_refl _, fun _ _ => rfl⟩
set_option maxHeartbeats 2000000 in
theorem eqN_weak (a1 a2 : Option Addr) (c1 c2 : Nat) (L M : List ByteArray) (w : World) (hL : NS w a1 L) (hM : NS w a2 M) (l1 : L.length ≤ maxLen) (l2 : M.length ≤ maxLen) :
    Calls Tryz.prog 42 #[.slice a1 L.length c1, .slice a2 M.length c2] w (BLQ w) := by
  unfold maxLen at l1 l2
  have H1 := Lib.hid hL
  have H2 := Lib.hid hM
  by_cases hn : L.length = M.length
  rotate_left
  · have t1 : ((L.length : Int) != (M.length : Int)) = true := by simp; omega
    clear hn hL hM
    go_enter Tryz.func42, Tryz.ntmps42
    go_wp2_with fail
    go_ret
    exact BLQ.mk false rfl (Below.refl _ _)
  have t1 : ((L.length : Int) != (M.length : Int)) = false := by simp; omega
  have HN := Lib.hid hn
  clear hL hM hn
  go_enter Tryz.func42, Tryz.ntmps42
  go_wp2_with fail
  go_loopw [13] (fun v13 wr => ∃ k : Nat, k ≤ L.length ∧ v13 = .int .i64 (k : Int) ∧ Below w.heap.size w wr) (fun v13 _ => L.length - (intOf v13).toNat)
  case atStart => exact ⟨0, by omega, rfl, Below.refl _ _⟩
  case round =>
    obtain ⟨k, hk, rfl, hB⟩ := hrel
    by_cases hlt : k < L.length
    · have hkM : k < M.length := by rw [← HN.out]; exact hlt
      obtain ⟨b1, o1, rfl, d1⟩ := (H1.out.keepL (cells_keepL hB (Nat.le_refl _))) k hlt
      obtain ⟨b2, o2, rfl, d2⟩ := (H2.out.keepL (cells_keepL hB (Nat.le_refl _))) k hkM
      generalize L[k] = X at d1
      generalize M[k] = Y at d2
      have i1 : (0 : Int) ≤ (k : Int) := by omega
      have i2 : (k : Int) < (L.length : Int) := by omega
      have i3 : (k : Int) < (M.length : Int) := by omega
      cases hbb : (X.toList == Y.toList)
      · have hbb2 : ¬ X.toList = Y.toList := by simpa using hbb
        go_wp2_with fail
        go_quiet (fail)
        go_wp2_with fail
        go_ret
        exact BLQ.mk false rfl (hB.trans (Below.drewNX _ _ _))
      · have hbb2 : X.toList = Y.toList := by simpa using hbb
        go_wp2_with fail
        go_quiet (fail)
        go_wp2_with fail
        exact ⟨⟨k + 1, by omega, by go_num, hB.trans (Below.drewNX _ _ _)⟩, by simp [intOf]; omega⟩
    obtain rfl : k = L.length := by omega
    go_wp2_with fail
    go_ret
    exact BLQ.mk true rfl hB
theorem results_dtt {fn : Func} {p u v : Tmp} (h : fn.results = #[.cell p 50, .tmp u, .tmp v]) (tmps : Array Value) (P : Program) (w : World) :
    (results fn tmps).run P w = ((asAddr (tmps.getD p undef)).run P w).andThen fun a w1 => ((loadVar 50 a).run P w1).andThen fun x w2 => .ok (.tuple #[x, tmps.getD u undef, tmps.getD v undef]) w2 := by
  simp only [results, h]
  simp [Sem.run_bind, Result.andThen]
theorem bodyPost_dtt {fn : Func} {R : Ending → World → Prop} {p u v : Tmp} {a : Act} {W : World} {b : Nat} {x y v0 v1 : Value} (h : fn.results = #[.cell p 50, .tmp u, .tmp v])
    (hp : a.tmps.getD p undef = .pointer (some ⟨b, 0, none⟩)) (hu : a.tmps.getD u undef = x) (hv : a.tmps.getD v undef = y)
    (hb : W.heap[b]? = some (.cells #[v0, v1] 50 (0, 0))) (hd : a.defers = []) (hR : R (.returned (.tuple #[.agg #[v0, v1], x, y])) W) : bodyPost Tryz.prog fn R Exit.ret a W := by
  refine bodyPost_ret (v := .tuple #[.agg #[v0, v1], x, y]) (w := W) ?_ hd hR
  rw [results_dtt h, hp, hu, hv]
  simp [asAddr, Result.andThen, run_loadVar_row W b _ _ _ (0, 0) _ hb Tryz.underlying50 rfl info_Int]
theorem own_neLt {w : World} {K e size n p : Nat} {v : Value} {xs : List Value} (h : w.ownsRow K e size v n xs) (hp : p < K) : v.ownBlock ≠ some p := fun e' => absurd (own_ge h p e').1 (Nat.not_le.2 hp)
/-- what Differences returns -/
def XDQ (n : Nat) (w : World) : Ending → World → Prop := fun e w' =>
  (∃ E : Int, E ≠ 0 ∧ e = .returned (.tuple #[.agg #[.bool false, .string ⟨#[]⟩], .slice none 0 0, .int .i64 E]) ∧ Below w.heap.size w w') ∨
  (∃ (C : ByteArray) (ao : Option Addr) (c : Nat) (l : List (Bool × ByteArray)), e = .returned (.tuple #[.agg #[.bool false, .string C], .slice ao n c, .int .i64 0]) ∧ validB C = true ∧ IS w' ao l ∧ l.length = n ∧ (∀ r ∈ l, ivB r = true ∧ r.2.size ≤ 25) ∧ Below w.heap.size w w')
theorem XDQ.bad {n : Nat} {w w' : World} {e : Ending} {E : Int} (h : E ≠ 0) (he : e = .returned (.tuple #[.agg #[.bool false, .string ⟨#[]⟩], .slice none 0 0, .int .i64 E])) (hb : Below w.heap.size w w') : XDQ n w e w' := .inl ⟨E, h, he, hb⟩
theorem XDQ.ok {n : Nat} {w w' : World} {e : Ending} {C : ByteArray} {ao : Option Addr} {c : Nat} {l : List (Bool × ByteArray)} (he : e = .returned (.tuple #[.agg #[.bool false, .string C], .slice ao n c, .int .i64 0])) (hC : validB C = true) (hi : IS w' ao l) (hn : l.length = n) (hk : ∀ r ∈ l, ivB r = true ∧ r.2.size ≤ 25) (hb : Below w.heap.size w w') : XDQ n w e w' := .inr ⟨C, ao, c, l, he, hC, hi, hn, hk, hb⟩
/-- a row of integers that grows -/
structure IRL (w0 w : World) (v : Value) (j : Nat) (l : List (Bool × ByteArray)) : Prop where
  o : w.ownsRow w0.heap.size 50 2 v j (icl l)
  n : l.length = j
  k : ∀ r ∈ l, ivB r = true ∧ r.2.size ≤ 25
  bl : Below w0.heap.size w0 w
section
variable {w0 w w' : World} {v v' : Value} {j : Nat} {l : List (Bool × ByteArray)} {g : Bool} {s : ByteArray}
theorem IRL.start (w0 : World) : IRL w0 w0 (.slice none 0 0) 0 [] := ⟨⟨rfl, .inl ⟨rfl, rfl⟩⟩, rfl, fun r h => (by cases h), Below.refl _ _⟩
theorem IRL.below (h : IRL w0 w v j l) (hb : Below w.heap.size w w') : IRL w0 w' v j l := ⟨own_keepL hb h.o, h.n, h.k, h.bl.trans (hb.mono h.bl.size)⟩
theorem IRL.alloc (h : IRL w0 w v j l) (o : Obj) : IRL w0 (w.alloc o) v j l := h.below ((Below.refl _ w).alloc (Nat.le_refl _) o)
theorem IRL.app (h : IRL w0 w v j l) (hk : ivB (g, s) = true ∧ s.size ≤ 25) (hg : w.grownBy w' v.ownBlock) (ho : w'.ownsRow w0.heap.size 50 2 v' (j + 1) (icl l ++ [.bool g, .string s])) : IRL w0 w' v' (j + 1) (l ++ [(g, s)]) :=
  ⟨by rw [icl_append]; exact ho, by rw [List.length_append, h.n]; rfl, fun r hr => by
    rw [List.mem_append, List.mem_singleton] at hr
    rcases hr with hr | rfl
    · exact h.k r hr
    · exact hk, h.bl.grown hg h.bl.size (fun q e => (own_ge h.o q e).1)⟩
end
/-- the boxes of Differences -/
structure DB (W : World) (p : Nat) (C L : ByteArray) (a : StA) (S : StM) (x y : PfA) : Prop where
  u : RUB W p C L
  s : SXB W (p + 1) a S
  f : PFB W (p + 1 + 1) x
  g : PFB W (p + 1 + 1 + 1) y
  r : RBox W (p + 1 + 1 + 1 + 1)
  S : SS W a S
  k : PfK W x
  l : PfK W y
theorem DB.keep {W w' : World} {p : Nat} {C L : ByteArray} {a : StA} {S : StM} {x y : PfA} (h : DB W p C L a S x y) (hb : Below W.heap.size W w') : DB w' p C L a S x y :=
  ⟨h.u.below hb h.u.lt, h.s.below hb h.s.lt, h.f.below hb h.f.lt, h.g.below hb h.g.lt, h.r.below hb h.r.lt, h.S.below hb (Nat.le_refl _), h.k.below hb, h.l.below hb⟩
theorem dbox (w : World) (C L : ByteArray) (a : StA) (S : StM) (x y : PfA) (hS : SS w a S) (hx : PfK w x) (hy : PfK w y) : ∃ W, ((((w.alloc (.cells #[.string C, .string L] 24)).alloc (.cells #[.slice a.ga S.G.length a.gc, .slice a.va S.V.length a.vc, .slice a.qa S.Q.length a.qc] 42)).alloc (.cells #[.slice x.fa x.F.length x.fc, .string x.c, .slice x.ra x.R.length x.rc] 34)).alloc (.cells #[.slice y.fa y.F.length y.fc, .string y.c, .slice y.ra y.R.length y.rc] 34)).alloc (.cells #[.bool false, .string ⟨#[]⟩] 50) = W ∧
    DB W w.heap.size C L a S x y ∧ Below w.heap.size w W := by
  have al := fun (W : World) (o : Obj) => (Below.refl W.heap.size W).alloc (Nat.le_refl _) o
  obtain ⟨W3, e3, hV, hb⟩ := vbox w C L a S x hS hx
  have s3 : W3.heap.size = w.heap.size + 1 + 1 + 1 := by rw [← e3, World.size_alloc, World.size_alloc, World.size_alloc]
  rw [e3]
  have h4 := PFB.new W3 y
  have b4 := al W3 (.cells #[.slice y.fa y.F.length y.fc, .string y.c, .slice y.ra y.R.length y.rc] 34)
  have s4 : (W3.alloc (.cells #[.slice y.fa y.F.length y.fc, .string y.c, .slice y.ra y.R.length y.rc] 34)).heap.size = W3.heap.size + 1 := World.size_alloc _ _
  generalize W3.alloc (.cells #[.slice y.fa y.F.length y.fc, .string y.c, .slice y.ra y.R.length y.rc] 34) = W4 at h4 b4 s4 ⊢
  have h5 := RBox.new W4
  have b5 := al W4 (.cells #[.bool false, .string ⟨#[]⟩] 50)
  rw [s3] at h4
  rw [s4, s3] at h5
  have b35 := b4.trans (b5.mono b4.size)
  have hb2 := hb.trans (b35.mono hb.size)
  have hV2 := hV.keep b35
  exact ⟨_, rfl, ⟨hV2.u, hV2.s, hV2.f, h4.below b5 (by omega), h5, hV2.S, hV2.k, hy.below hb2⟩, hb2⟩
/-- the boxes of Differences behind the swap -/
structure DC (W : World) (p : Nat) (a : StA) (S : StM) (x y : PfA) : Prop where
  s : SXB W (p + 1) a S
  f : PFB W (p + 1 + 1) x
  g : PFB W (p + 1 + 1 + 1) y
  r : RBox W (p + 1 + 1 + 1 + 1)
  sS : SS W a S
  k : PfK W x
  l : PfK W y
  vx : VRK S x
  vy : VRK S y
  le : nv y.c ≤ nv x.c
  zx : ∀ r ∈ x.R, r.2.size ≤ 24
  zy : ∀ r ∈ y.R, r.2.size ≤ 24
theorem DC.keep {W w' : World} {p : Nat} {a : StA} {S : StM} {x y : PfA} (h : DC W p a S x y) (hb : Below W.heap.size W w') : DC w' p a S x y :=
  ⟨h.s.below hb h.s.lt, h.f.below hb h.f.lt, h.g.below hb h.g.lt, h.r.below hb h.r.lt, h.sS.below hb (Nat.le_refl _), h.k.below hb, h.l.below hb, h.vx, h.vy, h.le, h.zx, h.zy⟩
theorem DC.set_other {W : World} {q p o : Nat} {v : Value} (h : q ≠ p) : (W.setCell ⟨p, o, none⟩ v).heap[q]? = W.heap[q]? := setC_other W p q o v h
theorem DB.same {W w : World} {C L : ByteArray} {a : StA} {S : StM} {x y : PfA} (h : DB W w.heap.size C L a S x y) (vx : VRK S x) (vy : VRK S y) (le : nv y.c ≤ nv x.c) (zx : ∀ r ∈ x.R, r.2.size ≤ 24) (zy : ∀ r ∈ y.R, r.2.size ≤ 24) : DC W w.heap.size a S x y :=
  ⟨h.s, h.f, h.g, h.r, h.S, h.k, h.l, vx, vy, le, zx, zy⟩
theorem DB.swap {W w : World} {C L : ByteArray} {a : StA} {S : StM} {x y : PfA} (h : DB W w.heap.size C L a S x y) (hS : SS w a S) (hx : PfK w x) (hy : PfK w y) (hb : Below w.heap.size w W) (vx : VRK S x) (vy : VRK S y) (le : nv x.c ≤ nv y.c) (zx : ∀ r ∈ x.R, r.2.size ≤ 24) (zy : ∀ r ∈ y.R, r.2.size ≤ 24) :
    DC ((((((W.setCell ⟨w.heap.size + 1 + 1, 0, none⟩ (.slice y.fa y.F.length y.fc)).setCell ⟨w.heap.size + 1 + 1, 1, none⟩ (.string y.c)).setCell ⟨w.heap.size + 1 + 1, 2, none⟩ (.slice y.ra y.R.length y.rc)).setCell ⟨w.heap.size + 1 + 1 + 1, 0, none⟩ (.slice x.fa x.F.length x.fc)).setCell ⟨w.heap.size + 1 + 1 + 1, 1, none⟩ (.string x.c)).setCell ⟨w.heap.size + 1 + 1 + 1, 2, none⟩ (.slice x.ra x.R.length x.rc)) w.heap.size a S y x ∧
    Below w.heap.size w ((((((W.setCell ⟨w.heap.size + 1 + 1, 0, none⟩ (.slice y.fa y.F.length y.fc)).setCell ⟨w.heap.size + 1 + 1, 1, none⟩ (.string y.c)).setCell ⟨w.heap.size + 1 + 1, 2, none⟩ (.slice y.ra y.R.length y.rc)).setCell ⟨w.heap.size + 1 + 1 + 1, 0, none⟩ (.slice x.fa x.F.length x.fc)).setCell ⟨w.heap.size + 1 + 1 + 1, 1, none⟩ (.string x.c)).setCell ⟨w.heap.size + 1 + 1 + 1, 2, none⟩ (.slice x.ra x.R.length x.rc)) := by
  have hb2 : Below w.heap.size w ((((((W.setCell ⟨w.heap.size + 1 + 1, 0, none⟩ (.slice y.fa y.F.length y.fc)).setCell ⟨w.heap.size + 1 + 1, 1, none⟩ (.string y.c)).setCell ⟨w.heap.size + 1 + 1, 2, none⟩ (.slice y.ra y.R.length y.rc)).setCell ⟨w.heap.size + 1 + 1 + 1, 0, none⟩ (.slice x.fa x.F.length x.fc)).setCell ⟨w.heap.size + 1 + 1 + 1, 1, none⟩ (.string x.c)).setCell ⟨w.heap.size + 1 + 1 + 1, 2, none⟩ (.slice x.ra x.R.length x.rc)) :=
    (((((hb.setCell (p := ⟨_, 0, none⟩) (by simp; omega) _).setCell (p := ⟨_, 1, none⟩) (by simp; omega) _).setCell (p := ⟨_, 2, none⟩) (by simp; omega) _).setCell (p := ⟨_, 0, none⟩) (by simp; omega) _).setCell (p := ⟨_, 1, none⟩) (by simp; omega) _).setCell (p := ⟨_, 2, none⟩) (by simp; omega) _
  refine ⟨⟨?_, ?_, ?_, ?_, hS.below hb2 (Nat.le_refl _), hy.below hb2, hx.below hb2, vy, vx, le, zy, zx⟩, hb2⟩
  · show _ = _
    rw [setC_other _ _ _ _ _ (by omega), setC_other _ _ _ _ _ (by omega), setC_other _ _ _ _ _ (by omega), setC_other _ _ _ _ _ (by omega), setC_other _ _ _ _ _ (by omega), setC_other _ _ _ _ _ (by omega)]
    exact h.s
  · show _ = _
    rw [setC_other _ (w.heap.size + 1 + 1 + 1) _ _ _ (by omega), setC_other _ (w.heap.size + 1 + 1 + 1) _ _ _ (by omega), setC_other _ (w.heap.size + 1 + 1 + 1) _ _ _ (by omega)]
    exact h.f.put (x' := y)
  · refine PFB.put (x := y) (x' := x) ?_
    show _ = _
    rw [setC_other _ _ _ _ _ (by omega), setC_other _ _ _ _ _ (by omega), setC_other _ _ _ _ _ (by omega)]
    exact h.g
  · show _ = _
    rw [setC_other _ _ _ _ _ (by omega), setC_other _ _ _ _ _ (by omega), setC_other _ _ _ _ _ (by omega), setC_other _ _ _ _ _ (by omega), setC_other _ _ _ _ _ (by omega), setC_other _ _ _ _ _ (by omega)]
    exact h.r
theorem P6.c {W : World} {q : Nat} {x y : PfA} (h : HPB W q #[.slice x.fa x.F.length x.fc, .string x.c, .slice x.ra x.R.length x.rc, .slice y.fa y.F.length y.fc, .string y.c, .slice y.ra y.R.length y.rc] 34) :
    W.cell? ⟨q, 0, none⟩ = some (.slice x.fa x.F.length x.fc) ∧ W.cell? ⟨q, 1, none⟩ = some (.string x.c) ∧ W.cell? ⟨q, 2, none⟩ = some (.slice x.ra x.R.length x.rc) ∧ W.cell? ⟨q, 3, none⟩ = some (.slice y.fa y.F.length y.fc) ∧ W.cell? ⟨q, 4, none⟩ = some (.string y.c) ∧ W.cell? ⟨q, 5, none⟩ = some (.slice y.ra y.R.length y.rc) :=
  ⟨by rw [Lib.cell_of_heap h]; rfl, by rw [Lib.cell_of_heap h]; rfl, by rw [Lib.cell_of_heap h]; rfl, by rw [Lib.cell_of_heap h]; rfl, by rw [Lib.cell_of_heap h]; rfl, by rw [Lib.cell_of_heap h]; rfl⟩
set_option maxHeartbeats 16000000 in
theorem xdiff_weak (C L : ByteArray) (a : StA) (S : StM) (x y : PfA) (w : World) (hS : SS w a S) (hok : S.ok) (hx : PfK w x) (hy : PfK w y) (s1 : C.size ≤ 8) (s2 : L.size ≤ 8) (s3 : ∀ v ∈ S.V, v.size ≤ 8) (hq : ∀ q ∈ S.Q, SzQ (eqp q)) (zx : ∀ r ∈ x.R, r.2.size ≤ 24) (zy : ∀ r ∈ y.R, r.2.size ≤ 24) (ho : (ordL S.G).size ≤ 8) :
    Calls Tryz.prog 27 #[.agg #[.string C, .string L], .agg #[.slice a.ga S.G.length a.gc, .slice a.va S.V.length a.vc, .slice a.qa S.Q.length a.qc], .agg #[.slice x.fa x.F.length x.fc, .string x.c, .slice x.ra x.R.length x.rc], .agg #[.slice y.fa y.F.length y.fc, .string y.c, .slice y.ra y.R.length y.rc]] w (XDQ S.V.length w) := by
  obtain ⟨W, hW, hV, hb⟩ := dbox w C L a S x y hS hx hy
  have HK := Lib.hid (fun w' (h : Below W.heap.size W w') => hV.keep h)
  have HVX := Lib.hid (fun w' (h : Below W.heap.size W w') => sverify_weak C L a S x w' (hV.keep h).S hok (hV.keep h).k s1 s2 s3 ⟨hq, fun r hr => Nat.le_trans (zx r hr) (by omega)⟩)
  have HVY := Lib.hid (fun w' (h : Below W.heap.size W w') => sverify_weak C L a S y w' (hV.keep h).S hok (hV.keep h).l s1 s2 s3 ⟨hq, fun r hr => Nat.le_trans (zy r hr) (by omega)⟩)
  have HEQ := Lib.hid (fun w' (h : Below W.heap.size W w') => eqN_weak x.fa y.fa x.fc y.fc x.F y.F w' (hV.keep h).k.f (hV.keep h).l.f hx.lf hy.lf)
  have HSW := Lib.hid (fun wc (h : DB wc w.heap.size C L a S x y) (hb' : Below w.heap.size w wc) (vx : VRK S x) (vy : VRK S y) (le : nv x.c ≤ nv y.c) => DB.swap h hS hx hy hb' vx vy le zx zy)
  have HSM := Lib.hid (fun wc (h : DB wc w.heap.size C L a S x y) (vx : VRK S x) (vy : VRK S y) (le : nv y.c ≤ nv x.c) => DB.same h vx vy le zx zy)
  have HO := Lib.hid ho
  have HOK := Lib.hid hok
  have lV := hok.vl
  unfold maxLen at lV
  have f0 := hV.f.c0
  have f1 := hV.f.c1
  have f2 := hV.f.c2
  have g0 := hV.g.c0
  have g1 := hV.g.c1
  have g2 := hV.g.c2
  clear hS hok hx hy s1 s2 s3 hq zx zy ho hV
  go_enter Tryz.func27, Tryz.ntmps27
  go_wp2_with fail
  clear hW f0 f1 f2 g0 g1 g2
  have hP := HPB.new W #[.slice x.fa x.F.length x.fc, .string x.c, .slice x.ra x.R.length x.rc, .slice y.fa y.F.length y.fc, .string y.c, .slice y.ra y.R.length y.rc] 34
  have b1 : Below W.heap.size W (W.alloc (.cells #[.slice x.fa x.F.length x.fc, .string x.c, .slice x.ra x.R.length x.rc, .slice y.fa y.F.length y.fc, .string y.c, .slice y.ra y.R.length y.rc] 34)) := (Below.refl _ W).alloc (Nat.le_refl _) _
  generalize W.heap.size = q at hP ⊢
  generalize World.alloc W _ = w1 at hP b1 ⊢
  refine wp_loop_rounds 3 ?_
  rw [rounds_succ]
  have HP1 := Lib.hid hP
  obtain ⟨q0, q1, q2, _, _, _⟩ := P6.c hP
  have bN := (Below.refl _ w1).alloc (Nat.le_refl _) (.cells #[.slice x.fa x.F.length x.fc, .string x.c, .slice x.ra x.R.length x.rc] 34)
  have hN := PFB.new w1 x
  have b2 := b1.trans (bN.mono b1.size)
  have n0 := hN.c0
  have n1 := hN.c1
  have n2 := hN.c2
  have u0 := (HK.out _ b2).u.c0
  have u1 := (HK.out _ b2).u.c1
  have x0 := (HK.out _ b2).s.c0
  have x1 := (HK.out _ b2).s.c1
  have x2 := (HK.out _ b2).s.c2
  clear hN hP
  go_wp2_with fail
  refine (HVX.out _ b2).mono ?_; rintro e w2 ⟨E, rfl, hE, kb⟩
  replace b2 := b2.trans (kb.mono b2.size)
  have HP2 := Lib.hid ((HP1.out.below bN).below kb)
  clear kb bN b1 n0 n1 n2 u0 u1 x0 x1 x2 q0 q1 q2 HP1 HVX
  by_cases hE0 : E = 0
  rotate_left
  · have ht : (E != 0) = true := by simpa using hE0
    have br := (HK.out _ b2).r
    have r0 := br.c0
    have r1 := br.c1
    have r2 := br.f0
    have r3 := br.f1
    go_wp2_with fail
    refine bodyPost_dtt rfl rfl rfl rfl (put2 br) rfl ?_
    exact XDQ.bad hE0 rfl (((hb.trans (b2.mono hb.size)).setCell (p := ⟨w.heap.size + 1 + 1 + 1 + 1, 0, none⟩) (by simp; omega) _).setCell (p := ⟨w.heap.size + 1 + 1 + 1 + 1, 1, none⟩) (by simp; omega) _)
  have HX := Lib.hid (hE hE0)
  subst hE0
  clear hE
  go_wp2_with fail
  rw [rounds_succ]
  obtain ⟨_, _, _, q3, q4, q5⟩ := P6.c HP2.out
  have bN := (Below.refl _ w2).alloc (Nat.le_refl _) (.cells #[.slice y.fa y.F.length y.fc, .string y.c, .slice y.ra y.R.length y.rc] 34)
  have hN := PFB.new w2 y
  have b3 := b2.trans (bN.mono b2.size)
  have n0 := hN.c0
  have n1 := hN.c1
  have n2 := hN.c2
  have u0 := (HK.out _ b3).u.c0
  have u1 := (HK.out _ b3).u.c1
  have x0 := (HK.out _ b3).s.c0
  have x1 := (HK.out _ b3).s.c1
  have x2 := (HK.out _ b3).s.c2
  clear hN HP2 b2
  go_wp2_with fail
  refine (HVY.out _ b3).mono ?_; rintro e w3 ⟨E, rfl, hE, kb⟩
  replace b3 := b3.trans (kb.mono b3.size)
  clear kb bN n0 n1 n2 u0 u1 x0 x1 x2 q3 q4 q5 HVY
  by_cases hE0 : E = 0
  rotate_left
  · have ht : (E != 0) = true := by simpa using hE0
    have br := (HK.out _ b3).r
    have r0 := br.c0
    have r1 := br.c1
    have r2 := br.f0
    have r3 := br.f1
    go_wp2_with fail
    refine bodyPost_dtt rfl rfl rfl rfl (put2 br) rfl ?_
    exact XDQ.bad hE0 rfl (((hb.trans (b3.mono hb.size)).setCell (p := ⟨w.heap.size + 1 + 1 + 1 + 1, 0, none⟩) (by simp; omega) _).setCell (p := ⟨w.heap.size + 1 + 1 + 1 + 1, 1, none⟩) (by simp; omega) _)
  have HY := Lib.hid (hE hE0)
  subst hE0
  clear hE
  go_wp2_with fail
  rw [rounds_succ]
  have f0 := (HK.out _ b3).f.c0
  have g0 := (HK.out _ b3).g.c0
  go_wp2_with fail
  refine (HEQ.out _ b3).mono ?_; rintro e w4 ⟨bb, rfl, kb⟩
  have b4 := b3.trans (kb.mono b3.size)
  clear kb f0 g0 HEQ b3
  have br := (HK.out _ b4).r
  have r0 := br.c0
  have r1 := br.c1
  have r2 := br.f0
  have r3 := br.f1
  cases bb
  · go_wp2_with fail
    refine bodyPost_dtt rfl rfl rfl rfl (put2 br) rfl ?_
    exact XDQ.bad (E := 1) (by decide) rfl (((hb.trans (b4.mono hb.size)).setCell (p := ⟨w.heap.size + 1 + 1 + 1 + 1, 0, none⟩) (by simp; omega) _).setCell (p := ⟨w.heap.size + 1 + 1 + 1 + 1, 1, none⟩) (by simp; omega) _)
  have f1 := (HK.out _ b4).f.c1
  have g1 := (HK.out _ b4).g.c1
  cases hcc : (x.c.toList == y.c.toList)
  rotate_left
  · have hcc2 : x.c.toList = y.c.toList := by simpa using hcc
    go_wp2_with fail
    refine bodyPost_dtt rfl rfl rfl rfl (put2 br) rfl ?_
    exact XDQ.bad (E := 1) (by decide) rfl (((hb.trans (b4.mono hb.size)).setCell (p := ⟨w.heap.size + 1 + 1 + 1 + 1, 0, none⟩) (by simp; omega) _).setCell (p := ⟨w.heap.size + 1 + 1 + 1 + 1, 1, none⟩) (by simp; omega) _)
  have hcc2 : ¬ x.c.toList = y.c.toList := by simpa using hcc
  clear r0 r1 r2 r3 br
  have HCM := Lib.hid (fun w' => Cmp_any x.c y.c (nv x.c) (nv y.c) w' (isN_of_valid HX.out.c) (isN_of_valid HY.out.c))
  obtain ⟨z, hz⟩ : ∃ z, ncmp (nv x.c) (nv y.c) = z := ⟨_, rfl⟩
  have HZ := Lib.hid (show (z = -1 ∧ nv x.c < nv y.c) ∨ ((z = 0 ∨ z = 1) ∧ ¬ nv x.c < nv y.c) from by
    rcases ncmpLt (nv x.c) (nv y.c) with ⟨h1, h2⟩ | ⟨h1, h2 | h2⟩
    · exact .inl ⟨hz.symm.trans h2, h1⟩
    · exact .inr ⟨.inl (hz.symm.trans h2), h1⟩
    · exact .inr ⟨.inr (hz.symm.trans h2), h1⟩)
  rw [hz] at HCM
  clear hz
  go_upto_if 58 with (go_at_call 43; (with_reducible refine (HCM.out _).mono ?_); rintro e wq ⟨rfl, rfl⟩)
  -- @D
  go_cut [9] from 53 to 60 (fun v9 wc => v9 = .slice none 0 0 ∧ ∃ x' y' : PfA, DC wc w.heap.size a S x' y' ∧ Below w.heap.size w wc)
  case first =>
    have hD := HK.out _ b4
    have hbw := hb.trans (b4.mono hb.size)
    have f0 := hD.f.c0
    have g0 := hD.g.c0
    have e0 := hD.f.f 0
    have d0 := hD.g.f 0
    have f1 := hD.f.c1
    have g1 := hD.g.c1
    have e1 := hD.f.f 1
    have d1 := hD.g.f 1
    have f2 := hD.f.c2
    have g2 := hD.g.c2
    have e2 := hD.f.f 2
    have d2 := hD.g.f 2
    rcases HZ.out with ⟨rfl, hlt⟩ | ⟨hz, hlt⟩
    · have HR := Lib.hid (HSW.out _ hD hbw HX.out HY.out (Nat.le_of_lt hlt))
      clear hD HK hlt hcc hcc2
      go_wp2_with fail
      go_meet
      exact ⟨rfl, y, x, HR.out.1, HR.out.2⟩
    · have HR := Lib.hid (HSM.out _ hD HX.out HY.out (by omega))
      have HBW := Lib.hid hbw
      clear hD HK hlt hcc hcc2 hbw
      rcases hz with rfl | rfl
      all_goals
        go_wp2_with fail
        go_meet
        exact ⟨rfl, x, y, HR.out, HBW.out⟩
  case rest =>
    obtain ⟨rfl, x', y', hD, hbc⟩ := hcut
    rename World => wc
    clear HK HX HY HZ HCM HSW HSM hcc hcc2 f1 g1 hb b4
    obtain ⟨fa, fc, F, c1, ra, rc, R⟩ := x'
    obtain ⟨fb, fd, F2, c2, rb, rd, R2⟩ := y'
    have HOR := Lib.hid (fun w' (h : SS w' a S) => xorder_any a S w' h HOK.out)
    obtain ⟨ga, gc, va, vc, qa, qc⟩ := a
    obtain ⟨oq, hoq⟩ : ∃ o, ordL S.G = o := ⟨_, rfl⟩
    rw [hoq] at HOR HO
    clear hoq
    have HD := Lib.hid (fun w' (h : Below wc.heap.size wc w') => hD.keep h)
    have g1 : wc.cell? ⟨w.heap.size + 1 + 1, 1, none⟩ = some (.string c1) := hD.f.c1
    have g2 : wc.cell? ⟨w.heap.size + 1 + 1 + 1, 1, none⟩ = some (.string c2) := hD.g.c1
    have v1 : IsN c1 (nv c1) := isN_of_valid hD.vx.c
    have v2 : IsN c2 (nv c2) := isN_of_valid hD.vy.c
    have hle : nv c2 ≤ nv c1 := hD.le
    have HSU := Lib.hid (fun w' => Sub_any c1 c2 (nv c1) (nv c2) w' v1 v2 hle)
    have HCs := Lib.hid (show validB (enc (nv c1 - nv c2)) = true from (IsN.mk' (Nat.le_trans (blen_mono (Nat.sub_le _ _)) v1.le)).valid)
    generalize enc (nv c1 - nv c2) = Cs at HSU HCs
    have HIA : Hid (∀ i (h : i < R.length), ivB R[i] = true ∧ R[i].2.size ≤ 24) := fun i h => ⟨List.all_eq_true.1 hD.vx.i _ (List.getElem_mem h), hD.zx _ (List.getElem_mem h)⟩
    have HIB : Hid (∀ i (h : i < R2.length), ivB R2[i] = true ∧ R2[i].2.size ≤ 24) := fun i h => ⟨List.all_eq_true.1 hD.vy.i _ (List.getElem_mem h), hD.zy _ (List.getElem_mem h)⟩
    have HLA : Hid (R.length = S.V.length) := hD.vx.r
    have HLB : Hid (R2.length = S.V.length) := hD.vy.r
    have l64 : S.V.length ≤ 64 := (many_q (ck_parts hD.vx.k).2.1).2.1
    clear hD v1 v2 hle HOK
    go_wp2_with fail
    refine (HSU.out _).mono ?_; rintro e w5 ⟨rfl, b5⟩
    clear g1 g2 HSU
    have hF := HPB.new w5 #[.func (.func 45) #[] #[], .func (.func 46) #[] #[]] 101
    have b6 := b5.trans (((Below.refl _ w5).alloc (Nat.le_refl _) (.cells #[.func (.func 45) #[] #[], .func (.func 46) #[] #[]] 101)).mono b5.size)
    have x1 : (w5.alloc (.cells #[.func (.func 45) #[] #[], .func (.func 46) #[] #[]] 101)).cell? ⟨w.heap.size + 1, 1, none⟩ = some (.slice va S.V.length vc) := (HD.out _ b6).s.c1
    go_wp2_with fail
    generalize w5.heap.size = pf at hF ⊢
    generalize World.alloc w5 _ = w6 at hF b6 x1 ⊢
    clear b5
    have HVv : Hid (NS w6 va S.V) := (HD.out _ b6).sS.v
    have HRa : Hid (IS w6 ra R) := (HD.out _ b6).k.r
    have HRb : Hid (IS w6 rb R2) := (HD.out _ b6).l.r
    have HF := Lib.hid hF
    obtain ⟨i0, hi, hz0, hz1, hz2⟩ := info_parts info_int2
    have HII := Lib.hid (And.intro hi (And.intro hz0 (And.intro hz1 hz2)))
    have hR0 := IRL.start w6
    have HKD := Lib.hid (fun (b : ByteArray) (w' : World) => xkind_any b w')
    clear x1 hF hi hz0 hz1 hz2
    go_loopw [17, 73] (fun v17 v73 wr => ∃ j : Nat, j ≤ S.V.length ∧ v73 = .int .i64 (j : Int) ∧ ∃ l, IRL w6 wr v17 j l) (fun _ v73 _ => S.V.length - (intOf v73).toNat)
    case atStart => exact ⟨0, by omega, rfl, [], hR0⟩
    case round =>
      clear hR0
      obtain ⟨j, hj, rfl, l, hR⟩ := hrel
      have hB := hR.bl
      have hbw := b6.trans (hB.mono b6.size)
      by_cases hlt : j < S.V.length
      · obtain ⟨bv, ov, rfl, e0⟩ := (HVv.out.keepL (cells_keepL hB (Nat.le_refl _))) j hlt
        have hjA : j < R.length := by rw [HLA.out]; exact hlt
        have hjB : j < R2.length := by rw [HLB.out]; exact hlt
        obtain ⟨ba, oa, rfl, r0, r1⟩ := (HRa.out.keepL (cells_keepL hB (Nat.le_refl _))) j hjA
        obtain ⟨bb, ob, rfl, r2, r3⟩ := (HRb.out.keepL (cells_keepL hB (Nat.le_refl _))) j hjB
        obtain ⟨ia, za⟩ := HIA.out j hjA
        obtain ⟨ib, zb'⟩ := HIB.out j hjB
        generalize R[j] = A1 at r0 r1 ia za
        generalize R2[j] = B1 at r2 r3 ib zb'
        generalize S.V[j] = y at e0
        obtain ⟨gA, sA⟩ := A1
        obtain ⟨gB, sB⟩ := B1
        simp only at r0 r1 r2 r3 za zb'
        have i1 : (0 : Int) ≤ (j : Int) := by omega
        have i2 : (j : Int) < (R.length : Int) := by omega
        have i3 : (j : Int) < (R2.length : Int) := by omega
        have i4 : (j : Int) < (S.V.length : Int) := by omega
        have HM : Hid ((kdI y = 0 ∧ ∀ w', Calls Tryz.prog 45 #[.string oq, .agg #[.bool gA, .string sA], .agg #[.bool gB, .string sB]] w' (IEQ w')) ∨ (kdI y = 1 ∧ ∀ w', Calls Tryz.prog 46 #[.string oq, .agg #[.bool gA, .string sA], .agg #[.bool gB, .string sB]] w' (IEQ w'))) := by
          unfold kdI
          cases he : emB y
          · exact .inr ⟨rfl, fun w' => idiff_any _ _ _ _ _ w' ia ib za zb'⟩
          · exact .inl ⟨rfl, fun w' => mdiff_any _ _ _ _ _ w' HO.out⟩
        have bN := (Below.refl _ wr).alloc (Nat.le_refl _) (.cells #[.string y] 77)
        have y0 := (VrB.new wr y).c0
        have hR1 := hR.alloc (.cells #[.string y] 77)
        have hFn := (HF.out.below hB).below bN
        have F0 : (wr.alloc (.cells #[.string y] 77)).cell? ⟨pf, 0, none⟩ = some (.func (.func 45) #[] #[]) := by rw [Lib.cell_of_heap hFn]; rfl
        have F1 : (wr.alloc (.cells #[.string y] 77)).cell? ⟨pf, 1, none⟩ = some (.func (.func 46) #[] #[]) := by rw [Lib.cell_of_heap hFn]; rfl
        have hbn0 := hbw.trans (bN.mono hbw.size)
        have hDn := HD.out _ hbn0
        have X0 : (wr.alloc (.cells #[.string y] 77)).cell? ⟨w.heap.size + 1, 0, none⟩ = some (.slice ga S.G.length gc) := hDn.s.c0
        have X1 : (wr.alloc (.cells #[.string y] 77)).cell? ⟨w.heap.size + 1, 1, none⟩ = some (.slice (some ⟨bv, ov, none⟩) S.V.length vc) := hDn.s.c1
        have X2 : (wr.alloc (.cells #[.string y] 77)).cell? ⟨w.heap.size + 1, 2, none⟩ = some (.slice qa S.Q.length qc) := hDn.s.c2
        have G2 : (wr.alloc (.cells #[.string y] 77)).cell? ⟨w.heap.size + 1 + 1, 2, none⟩ = some (.slice (some ⟨ba, oa, none⟩) R.length rc) := hDn.f.c2
        have H2 : (wr.alloc (.cells #[.string y] 77)).cell? ⟨w.heap.size + 1 + 1 + 1, 2, none⟩ = some (.slice (some ⟨bb, ob, none⟩) R2.length rd) := hDn.g.c2
        replace r0 := cells_keepL bN (Nat.le_refl _) _ _ r0
        replace r1 := cells_keepL bN (Nat.le_refl _) _ _ r1
        replace r2 := cells_keepL bN (Nat.le_refl _) _ _ r2
        replace r3 := cells_keepL bN (Nat.le_refl _) _ _ r3
        have HSS := Lib.hid hDn.sS
        clear hFn hDn ia ib za zb' hjA hjB hR hB hbw
        go_wp2_with fail
        clear e0
        generalize hpv : wr.heap.size = pv at y0 bN ⊢
        generalize hw7 : World.alloc wr _ = w7 at y0 hR1 F0 F1 X0 X1 X2 G2 H2 r0 r1 r2 r3 hbn0 bN HSS ⊢
        replace HOR := Lib.hid (fun w' (h : Below w7.heap.size w7 w') => HOR.out w' (HSS.out.below h (Nat.le_refl _)))
        go_cut [20, 21] from 78 to 97 (fun v20 v21 wd => ∃ (p : Nat) (g : Bool) (s : ByteArray) (E : Int), v20 = .pointer (some ⟨p, 0, none⟩) ∧ v21 = .int .i64 E ∧ IBL wd p g s ∧ (E = 0 → ivB (g, s) = true ∧ s.size ≤ 25) ∧ Below w7.heap.size w7 wd)
        case first =>
          clear HVv HRa HRb HIA HIB HLA HLB HF HII hR1 bN hbn0 HD HO HCs hbc
          have HMK := Lib.hid (fun w' (hw : Below w7.heap.size w7 w') => (⟨cells_keepL hw (Nat.le_refl _) _ _ y0, cells_keepL hw (Nat.le_refl _) _ _ F0, cells_keepL hw (Nat.le_refl _) _ _ F1, cells_keepL hw (Nat.le_refl _) _ _ X0, cells_keepL hw (Nat.le_refl _) _ _ X1, cells_keepL hw (Nat.le_refl _) _ _ X2, cells_keepL hw (Nat.le_refl _) _ _ G2, cells_keepL hw (Nat.le_refl _) _ _ H2, cells_keepL hw (Nat.le_refl _) _ _ r0, cells_keepL hw (Nat.le_refl _) _ _ r1, cells_keepL hw (Nat.le_refl _) _ _ r2, cells_keepL hw (Nat.le_refl _) _ _ r3, hw⟩ : w'.cell? ⟨pv, 0, none⟩ = some (.string y) ∧ w'.cell? ⟨pf, 0, none⟩ = some (.func (.func 45) #[] #[]) ∧ w'.cell? ⟨pf, 1, none⟩ = some (.func (.func 46) #[] #[]) ∧ w'.cell? ⟨w.heap.size + 1, 0, none⟩ = some (.slice ga S.G.length gc) ∧ w'.cell? ⟨w.heap.size + 1, 1, none⟩ = some (.slice (some ⟨bv, ov, none⟩) S.V.length vc) ∧ w'.cell? ⟨w.heap.size + 1, 2, none⟩ = some (.slice qa S.Q.length qc) ∧ w'.cell? ⟨w.heap.size + 1 + 1, 2, none⟩ = some (.slice (some ⟨ba, oa, none⟩) R.length rc) ∧ w'.cell? ⟨w.heap.size + 1 + 1 + 1, 2, none⟩ = some (.slice (some ⟨bb, ob, none⟩) R2.length rd) ∧ w'.cell? ⟨ba, oa + j * 2, none⟩ = some (.bool gA) ∧ w'.cell? ⟨ba, oa + j * 2 + 1, none⟩ = some (.string sA) ∧ w'.cell? ⟨bb, ob + j * 2, none⟩ = some (.bool gB) ∧ w'.cell? ⟨bb, ob + j * 2 + 1, none⟩ = some (.string sB) ∧ Below w7.heap.size w7 w'))
          rcases HM.out with ⟨hk, hM⟩ | ⟨hk, hM⟩
          · have HKy := Lib.hid (HKD.out y)
            rw [hk] at HKy
            have HMM := Lib.hid hM
            clear hk hM HKD
            go_region_held3 (fun w' => w'.cell? ⟨pv, 0, none⟩ = some (.string y) ∧ w'.cell? ⟨pf, 0, none⟩ = some (.func (.func 45) #[] #[]) ∧ w'.cell? ⟨pf, 1, none⟩ = some (.func (.func 46) #[] #[]) ∧ w'.cell? ⟨w.heap.size + 1, 0, none⟩ = some (.slice ga S.G.length gc) ∧ w'.cell? ⟨w.heap.size + 1, 1, none⟩ = some (.slice (some ⟨bv, ov, none⟩) S.V.length vc) ∧ w'.cell? ⟨w.heap.size + 1, 2, none⟩ = some (.slice qa S.Q.length qc) ∧ w'.cell? ⟨w.heap.size + 1 + 1, 2, none⟩ = some (.slice (some ⟨ba, oa, none⟩) R.length rc) ∧ w'.cell? ⟨w.heap.size + 1 + 1 + 1, 2, none⟩ = some (.slice (some ⟨bb, ob, none⟩) R2.length rd) ∧ w'.cell? ⟨ba, oa + j * 2, none⟩ = some (.bool gA) ∧ w'.cell? ⟨ba, oa + j * 2 + 1, none⟩ = some (.string sA) ∧ w'.cell? ⟨bb, ob + j * 2, none⟩ = some (.bool gB) ∧ w'.cell? ⟨bb, ob + j * 2 + 1, none⟩ = some (.string sB) ∧ Below w7.heap.size w7 w')
              (first | assumption | (refine HMK.out _ ?_; repeat' (first | assumption | with_reducible exact Below.refl _ _ | with_reducible refine Below.drew ?_ | with_reducible refine Below.alloc ?_ (by first | with_reducible exact hbm.size | with_reducible exact hbo.size | with_reducible exact hbn.size | (simp; done) | (simp; omega)) _ | with_reducible refine Below.setCell ?_ (by first | exact hbn.size | exact hbo.size | exact hbm.size | (simp; done) | (simp; omega)) _)))
              (first
                | (go_at_call 30; (with_reducible refine (HKy.out _).mono ?_); rintro e wn ⟨rfl, bn⟩; (first | (have hbn : Below w7.heap.size w7 wn := (Below.refl _ w7).drew.trans (bn.mono (Nat.le_refl _))) | (have hbn : Below w7.heap.size w7 wn := ((Below.refl _ w7).alloc (Nat.le_refl _) (.cells #[.bool false, .string ⟨#[]⟩] 50)).drew.trans (bn.mono (by simp)); have hrn := (RBox.new w7).drew.below bn (RBox.new w7).lt)))
                | (go_at_call 31; (first | (with_reducible refine (HOR.out _ hbn).mono ?_) | (with_reducible refine (HOR.out _ (hbn.alloc hbn.size (.cells #[.bool false, .string ⟨#[]⟩] 50))).mono ?_)); rintro e wo ⟨rfl, bo⟩; (first | (have hro := hrn.below bo hrn.lt; have hbo : Below w7.heap.size w7 wo := hbn.trans (bo.mono hbn.size)) | (have hbo : Below w7.heap.size w7 wo := hbn.trans (bo.mono hbn.size)) | (have hro := (RBox.new wn).below bo (RBox.new wn).lt; have hbo : Below w7.heap.size w7 wo := (hbn.alloc hbn.size (.cells #[.bool false, .string ⟨#[]⟩] 50)).trans (bo.mono (hbn.alloc hbn.size (.cells #[.bool false, .string ⟨#[]⟩] 50)).size))))
                | (go_at_call 45; (with_reducible refine (HMM.out _).mono ?_); rintro e wm ⟨g', s', E', rfl, hI', bm⟩; (first | (have hrm := hro.below bm hro.lt; have hbm : Below w7.heap.size w7 wm := hbo.trans (bm.mono hbo.size); have z0 := hrm.c0; have z1 := hrm.c1; have z3 := hrm.f0; have z4 := hrm.f1) | (have hbm : Below w7.heap.size w7 wm := hbo.trans (bm.mono hbo.size)) | (have hrm := (RBox.new wo).below bm (RBox.new wo).lt; have hbm : Below w7.heap.size w7 wm := (hbo.alloc hbo.size (.cells #[.bool false, .string ⟨#[]⟩] 50)).trans (bm.mono (hbo.alloc hbo.size (.cells #[.bool false, .string ⟨#[]⟩] 50)).size); have z0 := hrm.c0; have z1 := hrm.c1; have z3 := hrm.f0; have z4 := hrm.f1))))
            all_goals
              have HI' := Lib.hid hI'
              clear hI'
              go_wp2_with fail
              go_meet
              first
                | exact ⟨_, _, _, _, rfl, rfl, put2 hrm, HI'.out, (hbm.setCell (p := ⟨w7.heap.size, 0, none⟩) (Nat.le_refl _) _).setCell (p := ⟨w7.heap.size, 1, none⟩) (Nat.le_refl _) _⟩
                | exact ⟨_, _, _, _, rfl, rfl, put2 hrm, HI'.out, (hbm.setCell (p := ⟨wn.heap.size, 0, none⟩) hbn.size _).setCell (p := ⟨wn.heap.size, 1, none⟩) hbn.size _⟩
                | exact ⟨_, _, _, _, rfl, rfl, put2 hrm, HI'.out, (hbm.setCell (p := ⟨wo.heap.size, 0, none⟩) hbo.size _).setCell (p := ⟨wo.heap.size, 1, none⟩) hbo.size _⟩
                | exact ⟨_, _, _, _, rfl, rfl, IBL.new wm g' s', HI'.out, hbm.alloc hbm.size _⟩
          · have HKy := Lib.hid (HKD.out y)
            rw [hk] at HKy
            have HMM := Lib.hid hM
            clear hk hM HKD
            go_region_held3 (fun w' => w'.cell? ⟨pv, 0, none⟩ = some (.string y) ∧ w'.cell? ⟨pf, 0, none⟩ = some (.func (.func 45) #[] #[]) ∧ w'.cell? ⟨pf, 1, none⟩ = some (.func (.func 46) #[] #[]) ∧ w'.cell? ⟨w.heap.size + 1, 0, none⟩ = some (.slice ga S.G.length gc) ∧ w'.cell? ⟨w.heap.size + 1, 1, none⟩ = some (.slice (some ⟨bv, ov, none⟩) S.V.length vc) ∧ w'.cell? ⟨w.heap.size + 1, 2, none⟩ = some (.slice qa S.Q.length qc) ∧ w'.cell? ⟨w.heap.size + 1 + 1, 2, none⟩ = some (.slice (some ⟨ba, oa, none⟩) R.length rc) ∧ w'.cell? ⟨w.heap.size + 1 + 1 + 1, 2, none⟩ = some (.slice (some ⟨bb, ob, none⟩) R2.length rd) ∧ w'.cell? ⟨ba, oa + j * 2, none⟩ = some (.bool gA) ∧ w'.cell? ⟨ba, oa + j * 2 + 1, none⟩ = some (.string sA) ∧ w'.cell? ⟨bb, ob + j * 2, none⟩ = some (.bool gB) ∧ w'.cell? ⟨bb, ob + j * 2 + 1, none⟩ = some (.string sB) ∧ Below w7.heap.size w7 w')
              (first | assumption | (refine HMK.out _ ?_; repeat' (first | assumption | with_reducible exact Below.refl _ _ | with_reducible refine Below.drew ?_ | with_reducible refine Below.alloc ?_ (by first | with_reducible exact hbm.size | with_reducible exact hbo.size | with_reducible exact hbn.size | (simp; done) | (simp; omega)) _ | with_reducible refine Below.setCell ?_ (by first | exact hbn.size | exact hbo.size | exact hbm.size | (simp; done) | (simp; omega)) _)))
              (first
                | (go_at_call 30; (with_reducible refine (HKy.out _).mono ?_); rintro e wn ⟨rfl, bn⟩; (first | (have hbn : Below w7.heap.size w7 wn := (Below.refl _ w7).drew.trans (bn.mono (Nat.le_refl _))) | (have hbn : Below w7.heap.size w7 wn := ((Below.refl _ w7).alloc (Nat.le_refl _) (.cells #[.bool false, .string ⟨#[]⟩] 50)).drew.trans (bn.mono (by simp)); have hrn := (RBox.new w7).drew.below bn (RBox.new w7).lt)))
                | (go_at_call 31; (first | (with_reducible refine (HOR.out _ hbn).mono ?_) | (with_reducible refine (HOR.out _ (hbn.alloc hbn.size (.cells #[.bool false, .string ⟨#[]⟩] 50))).mono ?_)); rintro e wo ⟨rfl, bo⟩; (first | (have hro := hrn.below bo hrn.lt; have hbo : Below w7.heap.size w7 wo := hbn.trans (bo.mono hbn.size)) | (have hbo : Below w7.heap.size w7 wo := hbn.trans (bo.mono hbn.size)) | (have hro := (RBox.new wn).below bo (RBox.new wn).lt; have hbo : Below w7.heap.size w7 wo := (hbn.alloc hbn.size (.cells #[.bool false, .string ⟨#[]⟩] 50)).trans (bo.mono (hbn.alloc hbn.size (.cells #[.bool false, .string ⟨#[]⟩] 50)).size))))
                | (go_at_call 46; (with_reducible refine (HMM.out _).mono ?_); rintro e wm ⟨g', s', E', rfl, hI', bm⟩; (first | (have hrm := hro.below bm hro.lt; have hbm : Below w7.heap.size w7 wm := hbo.trans (bm.mono hbo.size); have z0 := hrm.c0; have z1 := hrm.c1; have z3 := hrm.f0; have z4 := hrm.f1) | (have hbm : Below w7.heap.size w7 wm := hbo.trans (bm.mono hbo.size)) | (have hrm := (RBox.new wo).below bm (RBox.new wo).lt; have hbm : Below w7.heap.size w7 wm := (hbo.alloc hbo.size (.cells #[.bool false, .string ⟨#[]⟩] 50)).trans (bm.mono (hbo.alloc hbo.size (.cells #[.bool false, .string ⟨#[]⟩] 50)).size); have z0 := hrm.c0; have z1 := hrm.c1; have z3 := hrm.f0; have z4 := hrm.f1))))
            all_goals
              have HI' := Lib.hid hI'
              clear hI'
              go_wp2_with fail
              go_meet
              first
                | exact ⟨_, _, _, _, rfl, rfl, put2 hrm, HI'.out, (hbm.setCell (p := ⟨w7.heap.size, 0, none⟩) (Nat.le_refl _) _).setCell (p := ⟨w7.heap.size, 1, none⟩) (Nat.le_refl _) _⟩
                | exact ⟨_, _, _, _, rfl, rfl, put2 hrm, HI'.out, (hbm.setCell (p := ⟨wn.heap.size, 0, none⟩) hbn.size _).setCell (p := ⟨wn.heap.size, 1, none⟩) hbn.size _⟩
                | exact ⟨_, _, _, _, rfl, rfl, put2 hrm, HI'.out, (hbm.setCell (p := ⟨wo.heap.size, 0, none⟩) hbo.size _).setCell (p := ⟨wo.heap.size, 1, none⟩) hbo.size _⟩
                | exact ⟨_, _, _, _, rfl, rfl, IBL.new wm g' s', HI'.out, hbm.alloc hbm.size _⟩
        case rest =>
          obtain ⟨p, g, s, E, rfl, rfl, hIB, hI, kb⟩ := hcut
          rename World => w8
          have HI := Lib.hid hI
          have b8 := hbn0.trans (kb.mono hbn0.size)
          have hR2 := hR1.below (kb.mono (by rw [← hw7, World.size_alloc]; omega))
          clear hR1 y0 F0 F1 X0 X1 X2 G2 H2 r0 r1 r2 r3 HM hI HOR HKD kb bN hbn0 HSS HVv HRa HRb HIA HIB HLA HLB
          by_cases hE : E = 0
          rotate_left
          · have ht : (E != 0) = true := by simpa using hE
            have br := (HD.out _ b8).r
            have r0 := br.c0
            have r1 := br.c1
            have r2 := br.f0
            have r3 := br.f1
            clear hR2 hw7 hpv
            go_wp2_with fail
            refine bodyPost_dtt rfl rfl rfl rfl (put2 br) rfl ?_
            exact XDQ.bad hE rfl (((hbc.trans (b8.mono hbc.size)).setCell (p := ⟨w.heap.size + 1 + 1 + 1 + 1, 0, none⟩) (by simp; omega) _).setCell (p := ⟨w.heap.size + 1 + 1 + 1 + 1, 1, none⟩) (by simp; omega) _)
          subst hE
          have hR4 := hR2.alloc (.cells #[.bool g, .string s] 50)
          have m0 := hIB.c0
          have m1 := hIB.c1
          have hNC := IBL.new w8 g s
          obtain ⟨hi, hz0, hz1, hz2⟩ := HII.out
          clear hR2 hIB hw7 hpv b8
          go_wp2_with (at_builtin; refine wpList_append_own _ rfl (.tmp 102) (.tmp 104) 32 rfl w6.heap.size 50 i0 (.agg #[.bool false, .string ⟨#[]⟩]) 2 24 Tryz.underlying32 hi hz0 hz1 hz2 rfl (by decide) u17 j (icl l) rfl hR4.o ⟨w8.heap.size, 0, none⟩ 1 1 [.bool g, .string s] rfl rfl (two_cellV hNC.c0 hNC.c1) ?o1 ?o2 ?o3 hR4.bl.size ?_; (case o1 => simp [Value.oneCell']); (case o2 => unfold maxLen; omega); (case o3 => omega); intro v1 w9 hown hgrow _; have hR5 := hR4.app (HI.out rfl) hgrow hown)
          exact ⟨⟨j + 1, by omega, by go_num, _, hR5⟩, by simp [intOf]; omega⟩
      obtain rfl : j = S.V.length := by omega
      have hne := own_neLt hR.o (HD.out _ b6).r.lt
      have br := (HD.out _ hbw).r
      have r0 := br.c0
      have r1 := br.c1
      have r2 := br.f0
      have r3 := br.f1
      have hO := own_setO (x := .string Cs) (j := 1) (own_setO (x := .bool false) (j := 0) hR.o hne) hne
      obtain ⟨ab, cc, rfl, hI⟩ := own_IS hO
      have HRR := Lib.hid (And.intro hR.n hR.k)
      have HIS := Lib.hid hI
      clear hR hB hI hO hne
      go_wp2_with fail
      refine bodyPost_dtt rfl rfl rfl rfl (put2 br) rfl ?_
      exact XDQ.ok rfl HCs.out HIS.out HRR.out.1 HRR.out.2 (((hbc.trans (hbw.mono hbc.size)).setCell (p := ⟨w.heap.size + 1 + 1 + 1 + 1, 0, none⟩) (by simp; omega) _).setCell (p := ⟨w.heap.size + 1 + 1 + 1 + 1, 1, none⟩) (by simp; omega) _)
end Go.Proofs.YtdlbnioidfhhcaaGreat
