/- integer: made, Valid, both, Of, From, Neg. -/
import Derived.Test.YtmbenndmkacjpaaNatG
import Derived.Laws.Rows
import Derived.Laws.ResultCell
namespace Go.Proofs.Ytmbenndmkacjpaa
open Go.RowKit Num
set_option maxRecDepth 20000
set_option linter.unusedVariables false
/-- sign and magnitude of an integer -/
def zb (z : Int) : Bool := decide (z < 0)
def zs (z : Int) : ByteArray := enc z.natAbs
def ZOk (z : Int) : Prop := blen z.natAbs ≤ 128
theorem ZOk.isN {z : Int} (h : ZOk z) : IsN (zs z) z.natAbs := IsN.mk' h
theorem zs_empty (z : Int) : (zs z).toList.isEmpty = decide (z = 0) := by
  unfold zs
  by_cases h : z = 0
  · subst h
    decide +kernel
  · rw [toList_enc_nil (by omega), decide_eq_false h]
theorem zb_and (z : Int) : (zb z && !(zs z).toList.isEmpty) = zb z := by
  rw [zs_empty]
  unfold zb
  by_cases h : z < 0
  · rw [decide_eq_true h, decide_eq_false (by omega)]; rfl
  · rw [decide_eq_false h]; rfl
theorem zb_not (z : Int) : (zb z && (zs z).toList.isEmpty) = false := by
  rw [zs_empty]
  unfold zb
  by_cases h : z < 0
  · rw [decide_eq_true h, decide_eq_false (by omega)]; rfl
  · rw [decide_eq_false h]; rfl
theorem made_any (b : Bool) (s : ByteArray) (w : World) :
    Calls Try.prog 26 #[.bool b, .string s] w fun e w' => e = .returned (.agg #[.bool (b && !s.toList.isEmpty), .string s]) ∧ Below w.heap.size w w' := by
  cases b
  · go_enter Try.func26, Try.ntmps26
    go_wp2_with fail
    refine bodyPost_ret (v := .agg #[.bool false, .string s]) (by simp [results, Try.results26, go_sem]) rfl ?_
    exact ⟨rfl, (Below.refl _ w).alloc (Nat.le_refl _) _⟩
  · go_enter Try.func26, Try.ntmps26
    go_wp2_with fail
    refine bodyPost_ret (v := .agg #[.bool (!s.toList.isEmpty), .string s]) (by simp [results, Try.results26, go_sem]) rfl ?_
    exact ⟨rfl, (Below.refl _ w).alloc (Nat.le_refl _) _⟩
theorem made_z (z : Int) (w : World) :
    Calls Try.prog 26 #[.bool (zb z), .string (zs z)] w fun e w' => e = .returned (.agg #[.bool (zb z), .string (zs z)]) ∧ Below w.heap.size w w' :=
  (made_any _ _ w).mono fun e w' ⟨h1, h2⟩ => ⟨by rw [h1, zb_and], h2⟩
theorem ivalid_any (b : Bool) (s : ByteArray) (w : World) :
    Calls Try.prog 17 #[.agg #[.bool b, .string s]] w fun e w' => e = .returned (.bool (validB s && !(b && s.toList.isEmpty))) ∧ Below w.heap.size w w' := by
  have hb := (Below.refl _ w).alloc (Nat.le_refl _) (.cells #[.bool b, .string s] 40)
  by_cases hv : validB s = true
  · have HV := Lib.hid hv
    rw [hv, Bool.true_and]
    clear hv
    cases b
    · go_enter Try.func17, Try.ntmps17
      go_wp2_with fail
      refine (Valid_any _ _).mono ?_
      rintro e w1 ⟨rfl, rfl⟩
      rw [HV.out]
      go_wp2_with fail
      go_ret
      exact ⟨rfl, hb⟩
    · go_enter Try.func17, Try.ntmps17
      go_wp2_with fail
      refine (Valid_any _ _).mono ?_
      rintro e w1 ⟨rfl, rfl⟩
      rw [HV.out]
      go_wp2_with fail
      go_ret
      exact ⟨by simp, hb⟩
  · have hv' : validB s = false := by simpa using hv
    rw [hv', Bool.false_and]
    have HV := Lib.hid hv'
    clear hv hv'
    go_enter Try.func17, Try.ntmps17
    go_wp2_with fail
    refine (Valid_any _ _).mono ?_
    rintro e w1 ⟨rfl, rfl⟩
    rw [HV.out]
    go_wp2_with fail
    go_ret
    exact ⟨rfl, hb⟩
theorem ivalid_z (z : Int) (w : World) (h : ZOk z) :
    Calls Try.prog 17 #[.agg #[.bool (zb z), .string (zs z)]] w fun e w' => e = .returned (.bool true) ∧ Below w.heap.size w w' :=
  (ivalid_any _ _ w).mono fun e w' ⟨h1, h2⟩ => ⟨by rw [h1, h.isN.valid, zb_not]; rfl, h2⟩
/-- an integer's variable -/
def ZBox (W : World) (b : Nat) (z : Int) : Prop := W.heap[b]? = some (.cells #[.bool (zb z), .string (zs z)] 40 (0, 0))
section
variable {W W' : World} {b : Nat} {z : Int}
theorem ZBox.lt (h : ZBox W b z) : b < W.heap.size := (Array.getElem?_eq_some_iff.1 h).1
theorem ZBox.c0 (h : ZBox W b z) : W.cell? ⟨b, 0, none⟩ = some (.bool (zb z)) := by rw [Lib.cell_of_heap h]; rfl
theorem ZBox.c1 (h : ZBox W b z) : W.cell? ⟨b, 1, none⟩ = some (.string (zs z)) := by rw [Lib.cell_of_heap h]; rfl
theorem ZBox.f0 (h : ZBox W b z) : W.frozen? ⟨b, 0, none⟩ = false := Lib.frozen_of_heap h 0
theorem ZBox.f1 (h : ZBox W b z) : W.frozen? ⟨b, 1, none⟩ = false := Lib.frozen_of_heap h 1
theorem ZBox.new (W : World) (z : Int) : ZBox (W.alloc (.cells #[.bool (zb z), .string (zs z)] 40)) W.heap.size z := heap_alloc_new W _
theorem ZBox.alloc (h : ZBox W b z) (o : Obj) : ZBox (W.alloc o) b z := (Below.heap_alloc W o b h.lt).trans h
theorem ZBox.below {B : Nat} (h : ZBox W b z) (hb : Below B W W') (hB : b < B) : ZBox W' b z := (hb.block b hB).trans h
end
/-- the world behind two boxed integers -/
theorem box2 (w : World) (x y : Int) : ∃ w1, (w.alloc (.cells #[.bool (zb x), .string (zs x)] 40)).alloc (.cells #[.bool (zb y), .string (zs y)] 40) = w1 ∧
    ZBox w1 w.heap.size x ∧ ZBox w1 (w.heap.size + 1) y ∧ w1.heap.size = w.heap.size + 2 ∧ Below w.heap.size w w1 := by
  have h2 := ZBox.new (w.alloc (.cells #[.bool (zb x), .string (zs x)] 40)) y
  rw [World.size_alloc] at h2
  exact ⟨_, rfl, (ZBox.new w x).alloc _, h2, by simp, ((Below.refl _ w).alloc (Nat.le_refl _) _).alloc (by simp) _⟩
theorem both_z (x y : Int) (w : World) (hx : ZOk x) (hy : ZOk y) :
    Calls Try.prog 30 #[.agg #[.bool (zb x), .string (zs x)], .agg #[.bool (zb y), .string (zs y)]] w fun e w' => e = .returned (.bool true) ∧ Below w.heap.size w w' := by
  have HX := Lib.hid hx
  have HY := Lib.hid hy
  clear hx hy
  go_enter Try.func30, Try.ntmps30
  go_wp2_with fail
  obtain ⟨w1, hw1, bx, by', hs, hb⟩ := box2 w x y
  rw [hw1]
  clear hw1
  refine (ivalid_z x _ HX.out).mono ?_
  rintro e w2 ⟨rfl, b2⟩
  have by2 := by'.below b2 (by omega)
  have c0 := by2.c0
  have c1 := by2.c1
  go_wp2_with fail
  refine (ivalid_z y _ HY.out).mono ?_
  rintro e w3 ⟨rfl, b3⟩
  have s2 := b2.size
  go_wp2_with fail
  go_ret
  exact ⟨rfl, hb.trans ((b2.mono (by omega)).trans (b3.mono (by omega)))⟩
/-- a result's variable, still empty -/
def RBox (W : World) (b : Nat) : Prop := W.heap[b]? = some (.cells #[.bool false, .string ⟨#[]⟩] 40 (0, 0))
section
variable {W W' : World} {b : Nat}
theorem RBox.lt (h : RBox W b) : b < W.heap.size := (Array.getElem?_eq_some_iff.1 h).1
theorem RBox.c0 (h : RBox W b) : W.cell? ⟨b, 0, none⟩ = some (.bool false) := by rw [Lib.cell_of_heap h]; rfl
theorem RBox.c1 (h : RBox W b) : W.cell? ⟨b, 1, none⟩ = some (.string ⟨#[]⟩) := by rw [Lib.cell_of_heap h]; rfl
theorem RBox.f0 (h : RBox W b) : W.frozen? ⟨b, 0, none⟩ = false := Lib.frozen_of_heap h 0
theorem RBox.f1 (h : RBox W b) : W.frozen? ⟨b, 1, none⟩ = false := Lib.frozen_of_heap h 1
theorem RBox.new (W : World) : RBox (W.alloc (.cells #[.bool false, .string ⟨#[]⟩] 40)) W.heap.size := heap_alloc_new W _
theorem RBox.alloc (h : RBox W b) (o : Obj) : RBox (W.alloc o) b := (Below.heap_alloc W o b h.lt).trans h
theorem RBox.below {B : Nat} (h : RBox W b) (hb : Below B W W') (hB : b < B) : RBox W' b := (hb.block b hB).trans h
end
section
variable {W : World} {b : Nat}
theorem put1 {cs : Array Value} {j : Nat} {v : Value} {t : TypeId} (h : W.heap[b]? = some (.cells cs t (0, 0))) : (W.setCell ⟨b, j, none⟩ v).heap[b]? = some (.cells (cs.setIfInBounds j v) t (0, 0)) := by
  obtain ⟨hlt, hk⟩ := Array.getElem?_eq_some_iff.1 h
  show (W.heap.modify b _)[b]? = _
  rw [Array.getElem?_eq_getElem (by rw [Array.size_modify]; exact hlt), Array.getElem_modify_self, hk]
  rfl
theorem put2 {a0 a1 v0 v1 : Value} {t : TypeId} (h : W.heap[b]? = some (.cells #[a0, a1] t (0, 0))) : ((W.setCell ⟨b, 0, none⟩ v0).setCell ⟨b, 1, none⟩ v1).heap[b]? = some (.cells #[v0, v1] t (0, 0)) :=
  put1 (put1 h)
theorem info_Int : (Try.prog.info? 40).map (·.size) = some 2 := by kernel_rfl
theorem bodyPost_int {fn : Func} {R : Ending → World → Prop} {p : Tmp} {a : Act} {v0 v1 : Value} (h : fn.results = #[.cell p 40]) (hp : a.tmps.getD p undef = .pointer (some ⟨b, 0, none⟩))
    (hb : W.heap[b]? = some (.cells #[v0, v1] 40 (0, 0))) (hd : a.defers = []) (hR : R (.returned (.agg #[v0, v1])) W) : bodyPost Try.prog fn R Exit.ret a W := by
  exact bodyPost_ret (results_cell_row h _ _ b _ _ (0, 0) _ hp hb Try.underlying40 rfl info_Int) hd hR
theorem bodyPost_int2 {fn : Func} {R : Ending → World → Prop} {p u : Tmp} {a : Act} {v0 v1 v : Value} (h : fn.results = #[.cell p 40, .tmp u]) (hp : a.tmps.getD p undef = .pointer (some ⟨b, 0, none⟩)) (hu : a.tmps.getD u undef = v)
    (hb : W.heap[b]? = some (.cells #[v0, v1] 40 (0, 0))) (hd : a.defers = []) (hR : R (.returned (.tuple #[.agg #[v0, v1], v])) W) : bodyPost Try.prog fn R Exit.ret a W := by
  refine bodyPost_ret (v := .tuple #[.agg #[v0, v1], v]) (w := W) ?_ hd hR
  rw [results_cell_tmp h, hp, hu]
  simp [asAddr, run_loadVar_row W b _ _ _ (0, 0) _ hb Try.underlying40 rfl info_Int]
end
theorem from_z (a : Nat) (w : World) (h : blen a ≤ 128) :
    Calls Try.prog 13 #[.string (enc a)] w fun e w' => e = .returned (.agg #[.bool (zb (a : Int)), .string (zs (a : Int))]) ∧ Below w.heap.size w w' := by
  have HV := Lib.hid (IsN.mk' h)
  have hz : zb (a : Int) = false := decide_eq_false (by omega)
  have hs : zs (a : Int) = enc a := rfl
  rw [hz, hs]
  clear hz hs
  go_enter Try.func13, Try.ntmps13
  go_wp2_with fail
  have r1 := RBox.new w
  have b1 := (Below.refl _ w).alloc (Nat.le_refl _) (.cells #[.bool false, .string ⟨#[]⟩] 40)
  generalize w.alloc _ = w1 at r1 b1 ⊢
  refine (Valid_yes _ _ _ HV.out).mono ?_
  rintro e w2 ⟨rfl, rfl⟩
  go_wp2_with fail
  refine (made_any _ _ _).mono ?_
  rintro e w3 ⟨rfl, b3⟩
  have r3 := r1.below b3 r1.lt
  have f0 := r3.f0
  have f1 := r3.f1
  have c0 := r3.c0
  have c1 := r3.c1
  go_wp2_with fail
  refine bodyPost_int rfl rfl (put2 r3) rfl ⟨rfl, ?_⟩
  exact ((b1.trans (b3.mono b1.size)).setCell (p := ⟨w.heap.size, 0, none⟩) (Nat.le_refl _) _).setCell (p := ⟨w.heap.size, 1, none⟩) (Nat.le_refl _) _
theorem zb_neg (z : Int) (h : z ≠ 0) : (!zb z) = zb (-z) := by
  unfold zb
  by_cases h1 : z < 0
  · rw [decide_eq_true h1, decide_eq_false (by omega)]; rfl
  · rw [decide_eq_false h1, decide_eq_true (by omega)]; rfl
theorem neg_made (z : Int) : ((!zb z) && !(zs z).toList.isEmpty) = zb (-z) ∧ zs z = zs (-z) := by
  refine ⟨?_, by unfold zs; rw [Int.natAbs_neg]⟩
  rw [zs_empty]
  by_cases h : z = 0
  · subst h; rfl
  · rw [zb_neg z h, decide_eq_false h]; simp
theorem ZOk.neg {z : Int} (h : ZOk z) : ZOk (-z) := by unfold ZOk; rw [Int.natAbs_neg]; exact h
theorem neg_z (z : Int) (w : World) (h : ZOk z) :
    Calls Try.prog 19 #[.agg #[.bool (zb z), .string (zs z)]] w fun e w' => e = .returned (.agg #[.bool (zb (-z)), .string (zs (-z))]) ∧ Below w.heap.size w w' := by
  have HZ := Lib.hid h
  have HM := Lib.hid (neg_made z)
  clear h
  go_enter Try.func19, Try.ntmps19
  go_wp2_with fail
  have r1 := RBox.new (w.alloc (.cells #[.bool (zb z), .string (zs z)] 40))
  have x1 := (ZBox.new w z).alloc (.cells #[.bool false, .string ⟨#[]⟩] 40)
  have b1 := ((Below.refl _ w).alloc (Nat.le_refl _) (.cells #[.bool (zb z), .string (zs z)] 40)).alloc (by simp) (.cells #[.bool false, .string ⟨#[]⟩] 40)
  rw [World.size_alloc] at r1
  generalize World.alloc _ _ = w1 at r1 x1 b1 ⊢
  refine (ivalid_z z _ HZ.out).mono ?_
  rintro e w2 ⟨rfl, b2⟩
  have x2 := x1.below b2 x1.lt
  have r2 := r1.below b2 r1.lt
  replace b2 := b1.trans (b2.mono b1.size)
  have c0 := x2.c0
  have c1 := x2.c1
  clear x1 r1 b1
  go_wp2_with fail
  refine (made_any _ _ _).mono ?_
  rw [HM.out.1, HM.out.2]
  rintro e w3 ⟨rfl, b3⟩
  have r3 := r2.below b3 r2.lt
  have f0 := r3.f0
  have f1 := r3.f1
  have d0 := r3.c0
  have d1 := r3.c1
  replace b3 := b2.trans (b3.mono b2.size)
  go_wp2_with fail
  refine bodyPost_int rfl rfl (put2 r3) rfl ⟨rfl, ?_⟩
  exact (b3.setCell (p := ⟨w.heap.size + 1, 0, none⟩) (by simp) _).setCell (p := ⟨w.heap.size + 1, 1, none⟩) (by simp) _
theorem iof_z (n : Nat) (w : World) (h : n < 9223372036854775808) :
    Calls Try.prog 60 #[.int .i64 (n : Int)] w fun e w' => e = .returned (.agg #[.bool (zb (n : Int)), .string (zs (n : Int))]) ∧ Below w.heap.size w w' := by
  have hz : zb (n : Int) = false := decide_eq_false (by omega)
  have hs : zs (n : Int) = enc n := rfl
  rw [hz, hs]
  clear hz hs
  have d1 : decide ((n : Int) < 0) = false := decide_eq_false (by omega)
  have w1' : IntKind.u64.wrap (n : Int) = (n : Int) := wraps_u64 _ (by omega) (by omega)
  go_enter Try.func60, Try.ntmps60
  go_wp2_with fail
  have r1 := RBox.new w
  have b1 := (Below.refl _ w).alloc (Nat.le_refl _) (.cells #[.bool false, .string ⟨#[]⟩] 40)
  generalize w.alloc _ = w1 at r1 b1 ⊢
  refine (Of_any n _ (by omega)).mono ?_
  rintro e w2 ⟨rfl, b2⟩
  have r2 := r1.below b2 r1.lt
  replace b2 := b1.trans (b2.mono b1.size)
  go_wp2_with fail
  refine (made_any _ _ _).mono ?_
  rintro e w3 ⟨rfl, b3⟩
  have r3 := r2.below b3 r2.lt
  have f0 := r3.f0
  have f1 := r3.f1
  have c0 := r3.c0
  have c1 := r3.c1
  replace b3 := b2.trans (b3.mono b2.size)
  go_wp2_with fail
  refine bodyPost_int rfl rfl (put2 r3) rfl ⟨rfl, ?_⟩
  exact (b3.setCell (p := ⟨w.heap.size, 0, none⟩) (Nat.le_refl _) _).setCell (p := ⟨w.heap.size, 1, none⟩) (Nat.le_refl _) _
end Go.Proofs.Ytmbenndmkacjpaa
