import Derived.Test.YtdlbnioidfhhcaaGreatNatG
import Derived.Laws.Rows
import Derived.Laws.ResultCell
import Derived.Test.YtdlbnioidfhhcaaGreatNatD
import Derived.Test.YtdlbnioidfhhcaaGreatNatA
import Derived.Deep.RegionWith
/- integer: made, Valid, both, Of, From, Neg. -/
namespace Go.Proofs.YtdlbnioidfhhcaaGreat
open Go.RowKit Num
set_option maxRecDepth 20000
set_option linter.unusedVariables false
/-- sign and magnitude of an integer -/
def zb (z : Int) : Bool := decide (z < 0)
def zs (z : Int) : ByteArray := enc z.natAbs
def ZOk (z : Int) : Prop := blen z.natAbs ≤ 128
theorem ZOk.isN {z : Int} (h : ZOk z) : IsN (zs z) z.natAbs := IsN.mk' h
theorem zs_empty (z : Int) : (zs z).toList.isEmpty = decide (z = 0) := by
  unfold zs
  by_cases h : z = 0
  · subst h
    decide +kernel
  · rw [toList_enc_nil (by omega), decide_eq_false h]
theorem zb_and (z : Int) : (zb z && !(zs z).toList.isEmpty) = zb z := by
  rw [zs_empty]
  unfold zb
  by_cases h : z < 0
  · rw [decide_eq_true h, decide_eq_false (by omega)]; rfl
  · rw [decide_eq_false h]; rfl
theorem zb_not (z : Int) : (zb z && (zs z).toList.isEmpty) = false := by
  rw [zs_empty]
  unfold zb
  by_cases h : z < 0
  · rw [decide_eq_true h, decide_eq_false (by omega)]; rfl
  · rw [decide_eq_false h]; rfl
theorem made_any (b : Bool) (s : ByteArray) (w : World) :
    Calls Tryz.prog 60 #[.bool b, .string s] w fun e w' => e = .returned (.agg #[.bool (b && !s.toList.isEmpty), .string s]) ∧ Below w.heap.size w w' := by
  cases b
  · go_enter Tryz.func60, Tryz.ntmps60
    go_wp2_with fail
    refine bodyPost_ret (v := .agg #[.bool false, .string s]) (by simp [results, Tryz.results60, go_sem]) rfl ?_
    exact ⟨rfl, (Below.refl _ w).alloc (Nat.le_refl _) _⟩
  · go_enter Tryz.func60, Tryz.ntmps60
    go_wp2_with fail
    refine bodyPost_ret (v := .agg #[.bool (!s.toList.isEmpty), .string s]) (by simp [results, Tryz.results60, go_sem]) rfl ?_
    exact ⟨rfl, (Below.refl _ w).alloc (Nat.le_refl _) _⟩
theorem made_z (z : Int) (w : World) :
    Calls Tryz.prog 60 #[.bool (zb z), .string (zs z)] w fun e w' => e = .returned (.agg #[.bool (zb z), .string (zs z)]) ∧ Below w.heap.size w w' :=
  (made_any _ _ w).mono fun e w' ⟨h1, h2⟩ => ⟨by rw [h1, zb_and], h2⟩
theorem ivalid_any (b : Bool) (s : ByteArray) (w : World) :
    Calls Tryz.prog 52 #[.agg #[.bool b, .string s]] w fun e w' => e = .returned (.bool (validB s && !(b && s.toList.isEmpty))) ∧ Below w.heap.size w w' := by
  have hb := (Below.refl _ w).alloc (Nat.le_refl _) (.cells #[.bool b, .string s] 50)
  by_cases hv : validB s = true
  · have HV := Lib.hid hv
    rw [hv, Bool.true_and]
    clear hv
    cases b
    · go_enter Tryz.func52, Tryz.ntmps52
      go_wp2_with fail
      refine (Valid_any _ _).mono ?_
      rintro e w1 ⟨rfl, rfl⟩
      rw [HV.out]
      go_wp2_with fail
      go_ret
      exact ⟨rfl, hb⟩
    · go_enter Tryz.func52, Tryz.ntmps52
      go_wp2_with fail
      refine (Valid_any _ _).mono ?_
      rintro e w1 ⟨rfl, rfl⟩
      rw [HV.out]
      go_wp2_with fail
      go_ret
      exact ⟨by simp, hb⟩
  · have hv' : validB s = false := by simpa using hv
    rw [hv', Bool.false_and]
    have HV := Lib.hid hv'
    clear hv hv'
    go_enter Tryz.func52, Tryz.ntmps52
    go_wp2_with fail
    refine (Valid_any _ _).mono ?_
    rintro e w1 ⟨rfl, rfl⟩
    rw [HV.out]
    go_wp2_with fail
    go_ret
    exact ⟨rfl, hb⟩
theorem ivalid_z (z : Int) (w : World) (h : ZOk z) :
    Calls Tryz.prog 52 #[.agg #[.bool (zb z), .string (zs z)]] w fun e w' => e = .returned (.bool true) ∧ Below w.heap.size w w' :=
  (ivalid_any _ _ w).mono fun e w' ⟨h1, h2⟩ => ⟨by rw [h1, h.isN.valid, zb_not]; rfl, h2⟩
/-- an integer's variable -/
def ZBox (W : World) (b : Nat) (z : Int) : Prop := W.heap[b]? = some (.cells #[.bool (zb z), .string (zs z)] 50 (0, 0))
section
variable {W W' : World} {b : Nat} {z : Int}
theorem ZBox.lt (h : ZBox W b z) : b < W.heap.size := (Array.getElem?_eq_some_iff.1 h).1
theorem ZBox.c0 (h : ZBox W b z) : W.cell? ⟨b, 0, none⟩ = some (.bool (zb z)) := by rw [Lib.cell_of_heap h]; rfl
theorem ZBox.c1 (h : ZBox W b z) : W.cell? ⟨b, 1, none⟩ = some (.string (zs z)) := by rw [Lib.cell_of_heap h]; rfl
theorem ZBox.f0 (h : ZBox W b z) : W.frozen? ⟨b, 0, none⟩ = false := Lib.frozen_of_heap h 0
theorem ZBox.f1 (h : ZBox W b z) : W.frozen? ⟨b, 1, none⟩ = false := Lib.frozen_of_heap h 1
theorem ZBox.new (W : World) (z : Int) : ZBox (W.alloc (.cells #[.bool (zb z), .string (zs z)] 50)) W.heap.size z := heap_alloc_new W _
theorem ZBox.alloc (h : ZBox W b z) (o : Obj) : ZBox (W.alloc o) b z := (Below.heap_alloc W o b h.lt).trans h
theorem ZBox.below {B : Nat} (h : ZBox W b z) (hb : Below B W W') (hB : b < B) : ZBox W' b z := (hb.block b hB).trans h
end
/-- the world behind two boxed integers -/
theorem box2 (w : World) (x y : Int) : ∃ w1, (w.alloc (.cells #[.bool (zb x), .string (zs x)] 50)).alloc (.cells #[.bool (zb y), .string (zs y)] 50) = w1 ∧
    ZBox w1 w.heap.size x ∧ ZBox w1 (w.heap.size + 1) y ∧ w1.heap.size = w.heap.size + 2 ∧ Below w.heap.size w w1 := by
  have h2 := ZBox.new (w.alloc (.cells #[.bool (zb x), .string (zs x)] 50)) y
  rw [World.size_alloc] at h2
  exact ⟨_, rfl, (ZBox.new w x).alloc _, h2, by simp, ((Below.refl _ w).alloc (Nat.le_refl _) _).alloc (by simp) _⟩
theorem both_z (x y : Int) (w : World) (hx : ZOk x) (hy : ZOk y) :
    Calls Tryz.prog 75 #[.agg #[.bool (zb x), .string (zs x)], .agg #[.bool (zb y), .string (zs y)]] w fun e w' => e = .returned (.bool true) ∧ Below w.heap.size w w' := by
  have HX := Lib.hid hx
  have HY := Lib.hid hy
  clear hx hy
  go_enter Tryz.func75, Tryz.ntmps75
  go_wp2_with fail
  obtain ⟨w1, hw1, bx, by', hs, hb⟩ := box2 w x y
  rw [hw1]
  clear hw1
  refine (ivalid_z x _ HX.out).mono ?_
  rintro e w2 ⟨rfl, b2⟩
  have by2 := by'.below b2 (by omega)
  have c0 := by2.c0
  have c1 := by2.c1
  go_wp2_with fail
  refine (ivalid_z y _ HY.out).mono ?_
  rintro e w3 ⟨rfl, b3⟩
  have s2 := b2.size
  go_wp2_with fail
  go_ret
  exact ⟨rfl, hb.trans ((b2.mono (by omega)).trans (b3.mono (by omega)))⟩
/-- a result's variable, still empty -/
def RBox (W : World) (b : Nat) : Prop := W.heap[b]? = some (.cells #[.bool false, .string ⟨#[]⟩] 50 (0, 0))
section
variable {W W' : World} {b : Nat}
theorem RBox.lt (h : RBox W b) : b < W.heap.size := (Array.getElem?_eq_some_iff.1 h).1
theorem RBox.c0 (h : RBox W b) : W.cell? ⟨b, 0, none⟩ = some (.bool false) := by rw [Lib.cell_of_heap h]; rfl
theorem RBox.c1 (h : RBox W b) : W.cell? ⟨b, 1, none⟩ = some (.string ⟨#[]⟩) := by rw [Lib.cell_of_heap h]; rfl
theorem RBox.f0 (h : RBox W b) : W.frozen? ⟨b, 0, none⟩ = false := Lib.frozen_of_heap h 0
theorem RBox.f1 (h : RBox W b) : W.frozen? ⟨b, 1, none⟩ = false := Lib.frozen_of_heap h 1
theorem RBox.new (W : World) : RBox (W.alloc (.cells #[.bool false, .string ⟨#[]⟩] 50)) W.heap.size := heap_alloc_new W _
theorem RBox.alloc (h : RBox W b) (o : Obj) : RBox (W.alloc o) b := (Below.heap_alloc W o b h.lt).trans h
theorem RBox.below {B : Nat} (h : RBox W b) (hb : Below B W W') (hB : b < B) : RBox W' b := (hb.block b hB).trans h
end
section
variable {W : World} {b : Nat}
theorem put1 {cs : Array Value} {j : Nat} {v : Value} {t : TypeId} (h : W.heap[b]? = some (.cells cs t (0, 0))) : (W.setCell ⟨b, j, none⟩ v).heap[b]? = some (.cells (cs.setIfInBounds j v) t (0, 0)) := by
  obtain ⟨hlt, hk⟩ := Array.getElem?_eq_some_iff.1 h
  show (W.heap.modify b _)[b]? = _
  rw [Array.getElem?_eq_getElem (by rw [Array.size_modify]; exact hlt), Array.getElem_modify_self, hk]
  rfl
theorem put2 {a0 a1 v0 v1 : Value} {t : TypeId} (h : W.heap[b]? = some (.cells #[a0, a1] t (0, 0))) : ((W.setCell ⟨b, 0, none⟩ v0).setCell ⟨b, 1, none⟩ v1).heap[b]? = some (.cells #[v0, v1] t (0, 0)) :=
  put1 (put1 h)
theorem info_Int : (Tryz.prog.info? 50).map (·.size) = some 2 := by kernel_rfl
theorem bodyPost_int {fn : Func} {R : Ending → World → Prop} {p : Tmp} {a : Act} {v0 v1 : Value} (h : fn.results = #[.cell p 50]) (hp : a.tmps.getD p undef = .pointer (some ⟨b, 0, none⟩))
    (hb : W.heap[b]? = some (.cells #[v0, v1] 50 (0, 0))) (hd : a.defers = []) (hR : R (.returned (.agg #[v0, v1])) W) : bodyPost Tryz.prog fn R Exit.ret a W := by
  exact bodyPost_ret (results_cell_row h _ _ b _ _ (0, 0) _ hp hb Tryz.underlying50 rfl info_Int) hd hR
theorem bodyPost_int2 {fn : Func} {R : Ending → World → Prop} {p u : Tmp} {a : Act} {v0 v1 v : Value} (h : fn.results = #[.cell p 50, .tmp u]) (hp : a.tmps.getD p undef = .pointer (some ⟨b, 0, none⟩)) (hu : a.tmps.getD u undef = v)
    (hb : W.heap[b]? = some (.cells #[v0, v1] 50 (0, 0))) (hd : a.defers = []) (hR : R (.returned (.tuple #[.agg #[v0, v1], v])) W) : bodyPost Tryz.prog fn R Exit.ret a W := by
  refine bodyPost_ret (v := .tuple #[.agg #[v0, v1], v]) (w := W) ?_ hd hR
  rw [results_cell_tmp h, hp, hu]
  simp [asAddr, run_loadVar_row W b _ _ _ (0, 0) _ hb Tryz.underlying50 rfl info_Int]
end
theorem from_z (a : Nat) (w : World) (h : blen a ≤ 128) :
    Calls Tryz.prog 65 #[.string (enc a)] w fun e w' => e = .returned (.agg #[.bool (zb (a : Int)), .string (zs (a : Int))]) ∧ Below w.heap.size w w' := by
  have HV := Lib.hid (IsN.mk' h)
  have hz : zb (a : Int) = false := decide_eq_false (by omega)
  have hs : zs (a : Int) = enc a := rfl
  rw [hz, hs]
  clear hz hs
  go_enter Tryz.func65, Tryz.ntmps65
  go_wp2_with fail
  have r1 := RBox.new w
  have b1 := (Below.refl _ w).alloc (Nat.le_refl _) (.cells #[.bool false, .string ⟨#[]⟩] 50)
  generalize w.alloc _ = w1 at r1 b1 ⊢
  refine (Valid_yes _ _ _ HV.out).mono ?_
  rintro e w2 ⟨rfl, rfl⟩
  go_wp2_with fail
  refine (made_any _ _ _).mono ?_
  rintro e w3 ⟨rfl, b3⟩
  have r3 := r1.below b3 r1.lt
  have f0 := r3.f0
  have f1 := r3.f1
  have c0 := r3.c0
  have c1 := r3.c1
  go_wp2_with fail
  refine bodyPost_int rfl rfl (put2 r3) rfl ⟨rfl, ?_⟩
  exact ((b1.trans (b3.mono b1.size)).setCell (p := ⟨w.heap.size, 0, none⟩) (Nat.le_refl _) _).setCell (p := ⟨w.heap.size, 1, none⟩) (Nat.le_refl _) _
theorem zb_neg (z : Int) (h : z ≠ 0) : (!zb z) = zb (-z) := by
  unfold zb
  by_cases h1 : z < 0
  · rw [decide_eq_true h1, decide_eq_false (by omega)]; rfl
  · rw [decide_eq_false h1, decide_eq_true (by omega)]; rfl
theorem neg_made (z : Int) : ((!zb z) && !(zs z).toList.isEmpty) = zb (-z) ∧ zs z = zs (-z) := by
  refine ⟨?_, by unfold zs; rw [Int.natAbs_neg]⟩
  rw [zs_empty]
  by_cases h : z = 0
  · subst h; rfl
  · rw [zb_neg z h, decide_eq_false h]; simp
theorem ZOk.neg {z : Int} (h : ZOk z) : ZOk (-z) := by unfold ZOk; rw [Int.natAbs_neg]; exact h
theorem neg_z (z : Int) (w : World) (h : ZOk z) :
    Calls Tryz.prog 95 #[.agg #[.bool (zb z), .string (zs z)]] w fun e w' => e = .returned (.agg #[.bool (zb (-z)), .string (zs (-z))]) ∧ Below w.heap.size w w' := by
  have HZ := Lib.hid h
  have HM := Lib.hid (neg_made z)
  clear h
  go_enter Tryz.func95, Tryz.ntmps95
  go_wp2_with fail
  have r1 := RBox.new (w.alloc (.cells #[.bool (zb z), .string (zs z)] 50))
  have x1 := (ZBox.new w z).alloc (.cells #[.bool false, .string ⟨#[]⟩] 50)
  have b1 := ((Below.refl _ w).alloc (Nat.le_refl _) (.cells #[.bool (zb z), .string (zs z)] 50)).alloc (by simp) (.cells #[.bool false, .string ⟨#[]⟩] 50)
  rw [World.size_alloc] at r1
  generalize World.alloc _ _ = w1 at r1 x1 b1 ⊢
  refine (ivalid_z z _ HZ.out).mono ?_
  rintro e w2 ⟨rfl, b2⟩
  have x2 := x1.below b2 x1.lt
  have r2 := r1.below b2 r1.lt
  replace b2 := b1.trans (b2.mono b1.size)
  have c0 := x2.c0
  have c1 := x2.c1
  clear x1 r1 b1
  go_wp2_with fail
  refine (made_any _ _ _).mono ?_
  rw [HM.out.1, HM.out.2]
  rintro e w3 ⟨rfl, b3⟩
  have r3 := r2.below b3 r2.lt
  have f0 := r3.f0
  have f1 := r3.f1
  have d0 := r3.c0
  have d1 := r3.c1
  replace b3 := b2.trans (b3.mono b2.size)
  go_wp2_with fail
  refine bodyPost_int rfl rfl (put2 r3) rfl ⟨rfl, ?_⟩
  exact (b3.setCell (p := ⟨w.heap.size + 1, 0, none⟩) (by simp) _).setCell (p := ⟨w.heap.size + 1, 1, none⟩) (by simp) _
theorem iof_z (n : Nat) (w : World) (h : n < 9223372036854775808) :
    Calls Tryz.prog 40 #[.int .i64 (n : Int)] w fun e w' => e = .returned (.agg #[.bool (zb (n : Int)), .string (zs (n : Int))]) ∧ Below w.heap.size w w' := by
  have hz : zb (n : Int) = false := decide_eq_false (by omega)
  have hs : zs (n : Int) = enc n := rfl
  rw [hz, hs]
  clear hz hs
  have d1 : decide ((n : Int) < 0) = false := decide_eq_false (by omega)
  have w1' : IntKind.u64.wrap (n : Int) = (n : Int) := wraps_u64 _ (by omega) (by omega)
  go_enter Tryz.func40, Tryz.ntmps40
  go_wp2_with fail
  have r1 := RBox.new w
  have b1 := (Below.refl _ w).alloc (Nat.le_refl _) (.cells #[.bool false, .string ⟨#[]⟩] 50)
  generalize w.alloc _ = w1 at r1 b1 ⊢
  refine (Of_any n _ (by omega)).mono ?_
  rintro e w2 ⟨rfl, b2⟩
  have r2 := r1.below b2 r1.lt
  replace b2 := b1.trans (b2.mono b1.size)
  go_wp2_with fail
  refine (made_any _ _ _).mono ?_
  rintro e w3 ⟨rfl, b3⟩
  have r3 := r2.below b3 r2.lt
  have f0 := r3.f0
  have f1 := r3.f1
  have c0 := r3.c0
  have c1 := r3.c1
  replace b3 := b2.trans (b3.mono b2.size)
  go_wp2_with fail
  refine bodyPost_int rfl rfl (put2 r3) rfl ⟨rfl, ?_⟩
  exact (b3.setCell (p := ⟨w.heap.size, 0, none⟩) (Nat.le_refl _) _).setCell (p := ⟨w.heap.size, 1, none⟩) (Nat.le_refl _) _
end Go.Proofs.YtdlbnioidfhhcaaGreat

/- integer: Add, Sub, Mul where the result fits. -/
namespace Go.Proofs.YtdlbnioidfhhcaaGreat
open Go.RowKit Num
set_option maxRecDepth 20000
set_option linter.unusedVariables false
theorem fit_ok {a : Nat} (h : blen a ≤ 128) : fitS a = enc a ∧ fitE a = 0 := by
  unfold fitS fitE
  rw [if_pos h, if_pos h]
  exact ⟨rfl, rfl⟩
/-- the world behind two boxed integers and an empty result -/
theorem box3 (w : World) (x y : Int) : ∃ w1, ((w.alloc (.cells #[.bool (zb x), .string (zs x)] 50)).alloc (.cells #[.bool (zb y), .string (zs y)] 50)).alloc (.cells #[.bool false, .string ⟨#[]⟩] 50) = w1 ∧
    ZBox w1 w.heap.size x ∧ ZBox w1 (w.heap.size + 1) y ∧ RBox w1 (w.heap.size + 1 + 1) ∧ w1.heap.size = w.heap.size + 3 ∧ Below w.heap.size w w1 := by
  obtain ⟨w1, hw, hx, hy, hs, hb⟩ := box2 w x y
  rw [hw]
  have h3 := RBox.new w1
  rw [hs] at h3
  exact ⟨_, rfl, hx.alloc _, hy.alloc _, h3, by rw [World.size_alloc, hs], hb.alloc hb.size _⟩
theorem sum_same {x y : Int} (h : zb x = zb y) : (x + y).natAbs = x.natAbs + y.natAbs ∧ (zb x && !(zs (x + y)).toList.isEmpty) = zb (x + y) := by
  rw [zs_empty]
  unfold zb at *
  by_cases h1 : x < 0
  · have h2 : y < 0 := by rw [decide_eq_true h1] at h; exact of_decide_eq_true h.symm
    rw [decide_eq_true h1, decide_eq_true (show x + y < 0 by omega), decide_eq_false (show ¬ x + y = 0 by omega)]
    exact ⟨by omega, rfl⟩
  · have h2 : ¬ y < 0 := by rw [decide_eq_false h1] at h; exact of_decide_eq_false h.symm
    rw [decide_eq_false h1, decide_eq_false (show ¬ x + y < 0 by omega)]
    exact ⟨by omega, rfl⟩
theorem sum_diff {x y : Int} (h : zb x ≠ zb y) (hle : y.natAbs ≤ x.natAbs) : (x + y).natAbs = x.natAbs - y.natAbs ∧ (zb x && !(zs (x + y)).toList.isEmpty) = zb (x + y) := by
  rw [zs_empty]
  unfold zb at *
  by_cases h1 : x < 0
  · have h2 : ¬ y < 0 := by intro h2; exact h (by rw [decide_eq_true h1, decide_eq_true h2])
    rw [decide_eq_true h1]
    by_cases h3 : x + y = 0
    · rw [decide_eq_true h3, decide_eq_false (show ¬ x + y < 0 by omega)]
      exact ⟨by omega, rfl⟩
    · rw [decide_eq_false h3, decide_eq_true (show x + y < 0 by omega)]
      exact ⟨by omega, rfl⟩
  · have h2 : y < 0 := by
      by_cases h2 : y < 0
      · exact h2
      · exact absurd (by rw [decide_eq_false h1, decide_eq_false h2]) h
    rw [decide_eq_false h1, decide_eq_false (show ¬ x + y < 0 by omega)]
    exact ⟨by omega, rfl⟩
/-- two boxed integers swapped -/
theorem swap2 (w : World) (p q r : Nat) (x y : Int) (B : Nat) (hx : ZBox w p x) (hy : ZBox w q y) (hr : RBox w r) (h1 : p ≠ q) (h2 : p ≠ r) (h3 : q ≠ r) (hp : B ≤ p) (hq : B ≤ q) :
    ∃ w1, (((w.setCell ⟨p, 0, none⟩ (.bool (zb y))).setCell ⟨p, 1, none⟩ (.string (zs y))).setCell ⟨q, 0, none⟩ (.bool (zb x))).setCell ⟨q, 1, none⟩ (.string (zs x)) = w1 ∧
    ZBox w1 p y ∧ ZBox w1 q x ∧ RBox w1 r ∧ Below B w w1 := by
  refine ⟨_, rfl, ?_, ?_, ?_, ((((Below.refl B w).setCell (p := ⟨p, 0, none⟩) hp _).setCell (p := ⟨p, 1, none⟩) hp _).setCell (p := ⟨q, 0, none⟩) hq _).setCell (p := ⟨q, 1, none⟩) hq _⟩
  · exact (Below.heap_setCell _ _ _ _ h1).trans ((Below.heap_setCell _ _ _ _ h1).trans (put2 hx))
  · exact put2 ((Below.heap_setCell _ _ _ _ h1.symm).trans ((Below.heap_setCell _ _ _ _ h1.symm).trans hy))
  · exact (Below.heap_setCell _ _ _ _ h3.symm).trans ((Below.heap_setCell _ _ _ _ h3.symm).trans ((Below.heap_setCell _ _ _ _ h2.symm).trans ((Below.heap_setCell _ _ _ _ h2.symm).trans hr)))
set_option maxHeartbeats 4000000 in
theorem iadd_same (x y : Int) (w : World) (hx : ZOk x) (hy : ZOk y) (hs : zb x = zb y) (hz : ZOk (x + y)) :
    Calls Tryz.prog 94 #[.agg #[.bool (zb x), .string (zs x)], .agg #[.bool (zb y), .string (zs y)]] w fun e w' => e = .returned (.tuple #[.agg #[.bool (zb (x + y)), .string (zs (x + y))], .int .i64 0]) ∧ Below w.heap.size w w' := by
  have HX := Lib.hid hx
  have HY := Lib.hid hy
  obtain ⟨q1, q2⟩ := sum_same hs
  have hq : blen (x.natAbs + y.natAbs) ≤ 128 := by rw [← q1]; exact hz
  have hzs : enc (x.natAbs + y.natAbs) = zs (x + y) := by rw [← q1]; rfl
  have HF := Lib.hid (And.intro (fit_ok hq) (And.intro hzs q2))
  have e1 : (zb x == zb y) = true := by rw [hs]; simp
  clear hx hy hs hz q1 q2 hq hzs
  obtain ⟨w1, hw1, bx, by', br, hs1, b1⟩ := box3 w x y
  have k0 := bx.c0
  have k1 := bx.c1
  have k2 := by'.c0
  have k3 := by'.c1
  go_enter Tryz.func94, Tryz.ntmps94
  go_wp2_with fail
  clear k0 k1 k2 k3
  refine (both_z x y _ HX.out HY.out).mono ?_
  rintro e w2 ⟨rfl, b2⟩
  have x2 := bx.below b2 bx.lt
  have y2 := by'.below b2 by'.lt
  have r2 := br.below b2 br.lt
  replace b2 := b1.trans (b2.mono b1.size)
  have c0 := x2.c0
  have c1 := x2.c1
  have c2 := y2.c0
  have c3 := y2.c1
  clear bx by' br b1 hs1
  go_wp2_with fail
  refine (Add_any _ _ _ _ _ HX.out.isN HY.out.isN).mono ?_
  rw [HF.out.1.1, HF.out.1.2, HF.out.2.1]
  rintro e w3 ⟨rfl, b3⟩
  have x3 := x2.below b3 x2.lt
  have r3 := r2.below b3 r2.lt
  replace b3 := b2.trans (b3.mono b2.size)
  have a0 := x3.c0
  clear x2 y2 r2 b2 c0 c1 c2 c3
  go_wp2_with fail
  refine (made_any _ _ _).mono ?_
  rw [HF.out.2.2]
  rintro e w4 ⟨rfl, b4⟩
  have r4 := r3.below b4 r3.lt
  have f0 := r4.f0
  have f1 := r4.f1
  have g0 := r4.c0
  have g1 := r4.c1
  replace b4 := b3.trans (b4.mono b3.size)
  go_wp2_with fail
  refine bodyPost_int2 rfl rfl rfl (put2 r4) rfl ⟨rfl, ?_⟩
  exact (b4.setCell (p := ⟨w.heap.size + 1 + 1, 0, none⟩) (by simp; omega) _).setCell (p := ⟨w.heap.size + 1 + 1, 1, none⟩) (by simp; omega) _
set_option maxHeartbeats 4000000 in
theorem iadd_more (x y : Int) (w : World) (hx : ZOk x) (hy : ZOk y) (hs : zb x ≠ zb y) (hle : y.natAbs ≤ x.natAbs) :
    Calls Tryz.prog 94 #[.agg #[.bool (zb x), .string (zs x)], .agg #[.bool (zb y), .string (zs y)]] w fun e w' => e = .returned (.tuple #[.agg #[.bool (zb (x + y)), .string (zs (x + y))], .int .i64 0]) ∧ Below w.heap.size w w' := by
  have HX := Lib.hid hx
  have HY := Lib.hid hy
  obtain ⟨q1, q2⟩ := sum_diff hs hle
  have hzs : enc (x.natAbs - y.natAbs) = zs (x + y) := by rw [← q1]; rfl
  have HF := Lib.hid (And.intro hzs q2)
  have HL := Lib.hid hle
  have d1 : decide (ncmp x.natAbs y.natAbs < 0) = false := by
    unfold ncmp
    rw [if_neg (by omega)]
    split <;> rfl
  have e1 : (zb x == zb y) = false := by rw [beq_eq_false_iff_ne]; exact hs
  clear hx hy hs hle q1 q2 hzs
  obtain ⟨w1, hw1, bx, by', br, hs1, b1⟩ := box3 w x y
  have k0 := bx.c0
  have k1 := bx.c1
  have k2 := by'.c0
  have k3 := by'.c1
  go_enter Tryz.func94, Tryz.ntmps94
  go_wp2_with fail
  clear k0 k1 k2 k3
  refine (both_z x y _ HX.out HY.out).mono ?_
  rintro e w2 ⟨rfl, b2⟩
  have x2 := bx.below b2 bx.lt
  have y2 := by'.below b2 by'.lt
  have r2 := br.below b2 br.lt
  replace b2 := b1.trans (b2.mono b1.size)
  have c0 := x2.c0
  have c1 := x2.c1
  have c2 := y2.c0
  have c3 := y2.c1
  clear bx by' br b1 hs1 hw1
  go_wp2_with fail
  refine (Cmp_any _ _ _ _ _ HX.out.isN HY.out.isN).mono ?_
  rintro e w3 ⟨rfl, rfl⟩
  have x4 := x2
  have r4 := r2
  have b4 := b2
  go_wp2_with fail
  refine (Sub_any _ _ _ _ _ HX.out.isN HY.out.isN HL.out).mono ?_
  rw [HF.out.1]
  rintro e w5 ⟨rfl, b5⟩
  have x5 := x4.below b5 x4.lt
  have r5 := r4.below b5 r4.lt
  replace b5 := b4.trans (b5.mono b4.size)
  have a0 := x5.c0
  go_wp2_with fail
  refine (made_any _ _ _).mono ?_
  rw [HF.out.2]
  rintro e w6 ⟨rfl, b6⟩
  have r6 := r5.below b6 r5.lt
  have f0 := r6.f0
  have f1 := r6.f1
  have h0 := r6.c0
  have h1 := r6.c1
  replace b6 := b5.trans (b6.mono b5.size)
  go_wp2_with fail
  refine bodyPost_int2 rfl rfl rfl (put2 r6) rfl ⟨rfl, ?_⟩
  exact (b6.setCell (p := ⟨w.heap.size + 1 + 1, 0, none⟩) (by simp; omega) _).setCell (p := ⟨w.heap.size + 1 + 1, 1, none⟩) (by simp; omega) _
set_option maxHeartbeats 4000000 in
theorem iadd_less (x y : Int) (w : World) (hx : ZOk x) (hy : ZOk y) (hs : zb x ≠ zb y) (hle : x.natAbs < y.natAbs) :
    Calls Tryz.prog 94 #[.agg #[.bool (zb x), .string (zs x)], .agg #[.bool (zb y), .string (zs y)]] w fun e w' => e = .returned (.tuple #[.agg #[.bool (zb (x + y)), .string (zs (x + y))], .int .i64 0]) ∧ Below w.heap.size w w' := by
  have HX := Lib.hid hx
  have HY := Lib.hid hy
  obtain ⟨q1, q2⟩ := sum_diff (x := y) (y := x) (fun h => hs h.symm) (by omega)
  rw [Int.add_comm y x] at q1 q2
  have hzs : enc (y.natAbs - x.natAbs) = zs (x + y) := by rw [← q1]; rfl
  have HF := Lib.hid (And.intro hzs q2)
  have HL := Lib.hid (Nat.le_of_lt hle)
  have d1 : decide (ncmp x.natAbs y.natAbs < 0) = true := by unfold ncmp; rw [if_pos hle]; rfl
  have e1 : (zb x == zb y) = false := by rw [beq_eq_false_iff_ne]; exact hs
  clear hx hy hs hle q1 q2 hzs
  obtain ⟨w1, hw1, bx, by', br, hs1, b1⟩ := box3 w x y
  have k0 := bx.c0
  have k1 := bx.c1
  have k2 := by'.c0
  have k3 := by'.c1
  go_enter Tryz.func94, Tryz.ntmps94
  go_wp2_with fail
  clear k0 k1 k2 k3
  refine (both_z x y _ HX.out HY.out).mono ?_
  rintro e w2 ⟨rfl, b2⟩
  have x2 := bx.below b2 bx.lt
  have y2 := by'.below b2 by'.lt
  have r2 := br.below b2 br.lt
  replace b2 := b1.trans (b2.mono b1.size)
  have c0 := x2.c0
  have c1 := x2.c1
  have c2 := y2.c0
  have c3 := y2.c1
  clear bx by' br b1 hs1 hw1
  go_wp2_with fail
  refine (Cmp_any _ _ _ _ _ HX.out.isN HY.out.isN).mono ?_
  rintro e w3 ⟨rfl, rfl⟩
  obtain ⟨w4, hw4, y4, x4, r4, b4⟩ := swap2 w2 _ _ _ x y w.heap.size x2 y2 r2 (by omega) (by omega) (by omega) (by omega) (by omega)
  replace b4 := b2.trans b4
  have g0 := x2.f0
  have g1 := x2.f1
  have g2 := y2.f0
  have g3 := y2.f1
  have k0 := y4.c0
  have k1 := y4.c1
  have k2 := x4.c0
  have k3 := x4.c1
  go_wp2_with fail
  clear g0 g1 g2 g3 c0 c1 c2 c3 hw4 x2 y2 r2 b2
  refine (Sub_any _ _ _ _ _ HY.out.isN HX.out.isN HL.out).mono ?_
  rw [HF.out.1]
  rintro e w5 ⟨rfl, b5⟩
  have x5 := y4.below b5 y4.lt
  have r5 := r4.below b5 r4.lt
  replace b5 := b4.trans (b5.mono b4.size)
  have a0 := x5.c0
  go_wp2_with fail
  refine (made_any _ _ _).mono ?_
  rw [HF.out.2]
  rintro e w6 ⟨rfl, b6⟩
  have r6 := r5.below b6 r5.lt
  have f0 := r6.f0
  have f1 := r6.f1
  have h0 := r6.c0
  have h1 := r6.c1
  replace b6 := b5.trans (b6.mono b5.size)
  go_wp2_with fail
  refine bodyPost_int2 rfl rfl rfl (put2 r6) rfl ⟨rfl, ?_⟩
  exact (b6.setCell (p := ⟨w.heap.size + 1 + 1, 0, none⟩) (by simp; omega) _).setCell (p := ⟨w.heap.size + 1 + 1, 1, none⟩) (by simp; omega) _
theorem iadd_z (x y : Int) (w : World) (hx : ZOk x) (hy : ZOk y) (hz : ZOk (x + y)) :
    Calls Tryz.prog 94 #[.agg #[.bool (zb x), .string (zs x)], .agg #[.bool (zb y), .string (zs y)]] w fun e w' => e = .returned (.tuple #[.agg #[.bool (zb (x + y)), .string (zs (x + y))], .int .i64 0]) ∧ Below w.heap.size w w' := by
  by_cases hs : zb x = zb y
  · exact iadd_same x y w hx hy hs hz
  · rcases Nat.lt_or_ge x.natAbs y.natAbs with h | h
    · exact iadd_less x y w hx hy hs h
    · exact iadd_more x y w hx hy hs h
end Go.Proofs.YtdlbnioidfhhcaaGreat

/- integer: Sub, Mul where the result fits. -/
namespace Go.Proofs.YtdlbnioidfhhcaaGreat
open Go.RowKit Num
set_option maxRecDepth 20000
set_option linter.unusedVariables false
theorem ZBox.drew {w : World} {b : Nat} {z : Int} (h : ZBox w b z) : ZBox w.drew b z := h
theorem RBox.drew {w : World} {b : Nat} (h : RBox w b) : RBox w.drew b := h
set_option maxHeartbeats 4000000 in
theorem isub_z (x y : Int) (w : World) (hx : ZOk x) (hy : ZOk y) (hz : ZOk (x - y)) :
    Calls Tryz.prog 70 #[.agg #[.bool (zb x), .string (zs x)], .agg #[.bool (zb y), .string (zs y)]] w fun e w' => e = .returned (.tuple #[.agg #[.bool (zb (x - y)), .string (zs (x - y))], .int .i64 0]) ∧ Below w.heap.size w w' := by
  have HX := Lib.hid hx
  have HY := Lib.hid hy
  have HZ : Hid (ZOk (x + -y)) := by rw [← Int.sub_eq_add_neg]; exact hz
  rw [Int.sub_eq_add_neg]
  clear hx hy hz
  obtain ⟨w1, hw1, bx, by', br, hs1, b1⟩ := box3 w x y
  have k0 := bx.c0
  have k1 := bx.c1
  have k2 := by'.c0
  have k3 := by'.c1
  go_enter Tryz.func70, Tryz.ntmps70
  go_wp2_with fail
  clear k0 k1 k2 k3
  refine (both_z x y _ HX.out HY.out).mono ?_
  rintro e w2 ⟨rfl, b2⟩
  have x2 := (bx.below b2 bx.lt).drew
  have y2 := (by'.below b2 by'.lt).drew
  have r2 := (br.below b2 br.lt).drew
  replace b2 := (b1.trans (b2.mono b1.size)).drew
  have c0 := x2.c0
  have c1 := x2.c1
  have c2 := y2.c0
  have c3 := y2.c1
  clear bx by' br b1 hs1 hw1
  go_wp2_with fail
  go_region_with (first
    | (refine (neg_z y _ HY.out).mono ?_; rintro e w3 ⟨rfl, b3⟩; have x3 := x2.below b3 x2.lt; have r3 := r2.below b3 r2.lt; have b3' := b2.trans (b3.mono b2.size); have d0 := x3.c0; have d1 := x3.c1)
    | (refine (iadd_z x (-y) _ HX.out HY.out.neg HZ.out).mono ?_; rintro e w4 ⟨rfl, b4⟩; have r4 := r3.below b4 r3.lt; have b4' := b3'.trans (b4.mono b3'.size); have f0 := r4.f0; have f1 := r4.f1; have e0 := r4.c0; have e1 := r4.c1))
  all_goals
    go_wp2_with fail
    refine bodyPost_int2 rfl rfl rfl (put2 r4) rfl ⟨rfl, ?_⟩
    exact (b4'.setCell (p := ⟨w.heap.size + 1 + 1, 0, none⟩) (by simp; omega) _).setCell (p := ⟨w.heap.size + 1 + 1, 1, none⟩) (by simp; omega) _
theorem mul_sign (x y : Int) : ((!(zb x == zb y)) && !(zs (x * y)).toList.isEmpty) = zb (x * y) := by
  rw [zs_empty]
  unfold zb
  rcases Int.lt_trichotomy x 0 with h1 | h1 | h1
  · rcases Int.lt_trichotomy y 0 with h2 | h2 | h2
    · have := Int.mul_pos_of_neg_of_neg h1 h2
      rw [decide_eq_true h1, decide_eq_true h2, decide_eq_false (show ¬ x * y < 0 by omega)]; rfl
    · subst h2; simp
    · have := Int.mul_neg_of_neg_of_pos h1 h2
      rw [decide_eq_true h1, decide_eq_false (show ¬ y < 0 by omega), decide_eq_true this, decide_eq_false (show ¬ x * y = 0 by omega)]; rfl
  · subst h1; simp
  · rcases Int.lt_trichotomy y 0 with h2 | h2 | h2
    · have := Int.mul_neg_of_pos_of_neg h1 h2
      rw [decide_eq_false (show ¬ x < 0 by omega), decide_eq_true h2, decide_eq_true this, decide_eq_false (show ¬ x * y = 0 by omega)]; rfl
    · subst h2; simp
    · have := Int.mul_pos h1 h2
      rw [decide_eq_false (show ¬ x < 0 by omega), decide_eq_false (show ¬ y < 0 by omega), decide_eq_false (show ¬ x * y < 0 by omega)]; rfl
set_option maxHeartbeats 4000000 in
theorem imul_z (x y : Int) (w : World) (hx : ZOk x) (hy : ZOk y) (hz : ZOk (x * y)) :
    Calls Tryz.prog 81 #[.agg #[.bool (zb x), .string (zs x)], .agg #[.bool (zb y), .string (zs y)]] w fun e w' => e = .returned (.tuple #[.agg #[.bool (zb (x * y)), .string (zs (x * y))], .int .i64 0]) ∧ Below w.heap.size w w' := by
  have HX := Lib.hid hx
  have HY := Lib.hid hy
  have hq : blen (x.natAbs * y.natAbs) ≤ 128 := by rw [← Int.natAbs_mul]; exact hz
  have hzs : enc (x.natAbs * y.natAbs) = zs (x * y) := by rw [← Int.natAbs_mul]; rfl
  have HF := Lib.hid (And.intro (fit_ok hq) (And.intro hzs (mul_sign x y)))
  clear hx hy hz hq hzs
  obtain ⟨w1, hw1, bx, by', br, hs1, b1⟩ := box3 w x y
  have k0 := bx.c0
  have k1 := bx.c1
  have k2 := by'.c0
  have k3 := by'.c1
  go_enter Tryz.func81, Tryz.ntmps81
  go_wp2_with fail
  clear k0 k1 k2 k3
  refine (both_z x y _ HX.out HY.out).mono ?_
  rintro e w2 ⟨rfl, b2⟩
  have x2 := bx.below b2 bx.lt
  have y2 := by'.below b2 by'.lt
  have r2 := br.below b2 br.lt
  replace b2 := b1.trans (b2.mono b1.size)
  have c0 := x2.c0
  have c1 := x2.c1
  have c2 := y2.c0
  have c3 := y2.c1
  clear bx by' br b1 hs1 hw1
  go_wp2_with fail
  refine (Mul_any _ _ _ _ _ HX.out.isN HY.out.isN).mono ?_
  rw [HF.out.1.1, HF.out.1.2, HF.out.2.1]
  rintro e w3 ⟨rfl, b3⟩
  have x3 := x2.below b3 x2.lt
  have y3 := y2.below b3 y2.lt
  have r3 := r2.below b3 r2.lt
  replace b3 := b2.trans (b3.mono b2.size)
  have a0 := x3.c0
  have a1 := y3.c0
  clear x2 y2 r2 b2 c0 c1 c2 c3
  go_wp2_with fail
  refine (made_any _ _ _).mono ?_
  rw [HF.out.2.2]
  rintro e w4 ⟨rfl, b4⟩
  have r4 := r3.below b4 r3.lt
  have f0 := r4.f0
  have f1 := r4.f1
  have g0 := r4.c0
  have g1 := r4.c1
  replace b4 := b3.trans (b4.mono b3.size)
  go_wp2_with fail
  refine bodyPost_int2 rfl rfl rfl (put2 r4) rfl ⟨rfl, ?_⟩
  exact (b4.setCell (p := ⟨w.heap.size + 1 + 1, 0, none⟩) (by simp; omega) _).setCell (p := ⟨w.heap.size + 1 + 1, 1, none⟩) (by simp; omega) _
end Go.Proofs.YtdlbnioidfhhcaaGreat
