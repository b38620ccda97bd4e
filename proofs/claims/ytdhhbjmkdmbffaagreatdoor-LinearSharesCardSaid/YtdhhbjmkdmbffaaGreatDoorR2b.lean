import Derived.Test.YtdhhbjmkdmbffaaGreatDoorR2
import Derived.Test.YtdhhbjmkdmbffaaGreatDoorInv
import Derived.Test.YtdhhbjmkdmbffaaGreatDoorPow
/- The reference of layer 2: bezout. -/
namespace Go.Proofs.YtdhhbjmkdmbffaaGreatDoor
open Go.RowKit Num
set_option maxRecDepth 20000
set_option linter.unusedVariables false
/-- two variables, and two results still empty -/
structure BS (w W : World) (p q : Nat) (x y : Int) : Prop where
  x : ZBox W p x
  y : ZBox W q y
  r5 : RBox W w.heap.size
  r6 : RBox W (w.heap.size + 1)
  b : Below w.heap.size w W
  o : w.heap.size + 1 < p ∧ w.heap.size + 1 < q
section
variable {w W W' : World} {p q : Nat} {x y : Int}
theorem BS.below (h : BS w W p q x y) (hb : Below W.heap.size W W') : BS w W' p q x y :=
  ⟨h.x.below hb h.x.lt, h.y.below hb h.y.lt, h.r5.below hb h.r5.lt, h.r6.below hb h.r6.lt, h.b.trans (hb.mono h.b.size), h.o⟩
theorem BS.alloc (h : BS w W p q x y) (o : Obj) : BS w (W.alloc o) p q x y := h.below ((Below.refl _ W).alloc (Nat.le_refl _) o)
theorem BS.drew (h : BS w W p q x y) : BS w W.drew p q x y := ⟨h.x, h.y, h.r5, h.r6, h.b.drew, h.o⟩
theorem two_out (r5 : RBox W w.heap.size) (r6 : RBox W (w.heap.size + 1)) (hb : Below w.heap.size w W) (u0 u1 v0 v1 : Value) :
    ∃ W', (((W.setCell ⟨w.heap.size, 0, none⟩ u0).setCell ⟨w.heap.size, 1, none⟩ u1).setCell ⟨w.heap.size + 1, 0, none⟩ v0).setCell ⟨w.heap.size + 1, 1, none⟩ v1 = W' ∧
      W'.heap[w.heap.size]? = some (.cells #[u0, u1] 36 (0, 0)) ∧ W'.heap[w.heap.size + 1]? = some (.cells #[v0, v1] 36 (0, 0)) ∧ Below w.heap.size w W' := by
  refine ⟨_, rfl, ?_, ?_, ?_⟩
  · exact (Below.heap_setCell _ _ _ _ (by simp)).trans ((Below.heap_setCell _ _ _ _ (by simp)).trans (put2 r5))
  · exact put2 ((Below.heap_setCell _ _ _ _ (by simp)).trans ((Below.heap_setCell _ _ _ _ (by simp)).trans r6))
  · exact (((hb.setCell (p := ⟨w.heap.size, 0, none⟩) (Nat.le_refl _) _).setCell (p := ⟨w.heap.size, 1, none⟩) (Nat.le_refl _) _).setCell (p := ⟨w.heap.size + 1, 0, none⟩) (Nat.le_succ _) _).setCell (p := ⟨w.heap.size + 1, 1, none⟩) (Nat.le_succ _) _
theorem BS.out (h : BS w W p q x y) (u0 u1 v0 v1 : Value) :
    ∃ W', (((W.setCell ⟨w.heap.size, 0, none⟩ u0).setCell ⟨w.heap.size, 1, none⟩ u1).setCell ⟨w.heap.size + 1, 0, none⟩ v0).setCell ⟨w.heap.size + 1, 1, none⟩ v1 = W' ∧
      W'.heap[w.heap.size]? = some (.cells #[u0, u1] 36 (0, 0)) ∧ W'.heap[w.heap.size + 1]? = some (.cells #[v0, v1] 36 (0, 0)) ∧ Below w.heap.size w W' := by
  exact two_out h.r5 h.r6 h.b u0 u1 v0 v1
theorem BS.put (h : BS w W p q x y) {r : Nat} (h1 : p < r) (h2 : q < r) (u v : Value) : BS w ((W.setCell ⟨r, 0, none⟩ u).setCell ⟨r, 1, none⟩ v) p q x y := by
  have ho := h.o
  have e : ∀ k, k ≠ r → ((W.setCell ⟨r, 0, none⟩ u).setCell ⟨r, 1, none⟩ v).heap[k]? = W.heap[k]? := fun k hk => (Below.heap_setCell _ _ _ _ hk).trans (Below.heap_setCell _ _ _ _ hk)
  exact ⟨(e _ (by omega)).trans h.x, (e _ (by omega)).trans h.y, (e _ (by omega)).trans h.r5, (e _ (by omega)).trans h.r6,
    (h.b.setCell (p := ⟨r, 0, none⟩) (by show _ ≤ r; omega) _).setCell (p := ⟨r, 1, none⟩) (by show _ ≤ r; omega) _, ho⟩
theorem BS.new (h5 : RBox W w.heap.size) (h6 : RBox W (w.heap.size + 1)) (hb : Below w.heap.size w W) (x y : Int) (ho : w.heap.size + 1 < W.heap.size) :
    BS w ((W.alloc (.cells #[.bool (zb x), .string (zs x)] 36)).alloc (.cells #[.bool (zb y), .string (zs y)] 36)) W.heap.size (W.heap.size + 1) x y := by
  have b2 : Below W.heap.size W ((W.alloc (.cells #[.bool (zb x), .string (zs x)] 36)).alloc (.cells #[.bool (zb y), .string (zs y)] 36)) := ((Below.refl _ W).alloc (Nat.le_refl _) _).alloc (by simp) _
  have hy := ZBox.new (W.alloc (.cells #[.bool (zb x), .string (zs x)] 36)) y
  rw [World.size_alloc] at hy
  exact ⟨(ZBox.new W x).alloc _, hy, h5.below b2 h5.lt, h6.below b2 h6.lt, hb.trans (b2.mono hb.size), ho, by omega⟩
end
theorem results_bez {fn : Func} {p q t : Tmp} (h : fn.results = #[.tmp t, .cell p 36, .cell q 36]) (tmps : Array Value) (P : Program) (w : World) :
    (results fn tmps).run P w =
      ((asAddr (tmps.getD p undef)).run P w).andThen fun a w1 => ((loadVar 36 a).run P w1).andThen fun v w2 =>
        ((asAddr (tmps.getD q undef)).run P w2).andThen fun b w3 => ((loadVar 36 b).run P w3).andThen fun v' w4 => .ok (.tuple #[tmps.getD t undef, v, v']) w4 := by
  simp only [results, h]
  simp [Sem.run_bind, Result.andThen]
theorem bodyPost_bez {fn : Func} {R : Ending → World → Prop} {p q t : Tmp} {a : Act} {W : World} {b c : Nat} {g v0 v1 u0 u1 : Value} (h : fn.results = #[.tmp t, .cell p 36, .cell q 36])
    (ht : a.tmps.getD t undef = g) (hp : a.tmps.getD p undef = .pointer (some ⟨b, 0, none⟩)) (hq : a.tmps.getD q undef = .pointer (some ⟨c, 0, none⟩))
    (hb : W.heap[b]? = some (.cells #[v0, v1] 36 (0, 0))) (hc : W.heap[c]? = some (.cells #[u0, u1] 36 (0, 0))) (hd : a.defers = [])
    (hR : R (.returned (.tuple #[g, .agg #[v0, v1], .agg #[u0, u1]])) W) : bodyPost Tryz.prog fn R Exit.ret a W := by
  refine bodyPost_ret (v := .tuple #[g, .agg #[v0, v1], .agg #[u0, u1]]) (w := W) ?_ hd hR
  rw [results_bez h, hp, hq, ht]
  simp [asAddr, Result.andThen, run_loadVar_row W b _ _ _ (0, 0) _ hb Tryz.underlying36 rfl info_Int, run_loadVar_row W c _ _ _ (0, 0) _ hc Tryz.underlying36 rfl info_Int]
/-- what bezout returns -/
def BezR (a b : Nat) (w : World) (e : Ending) (w' : World) : Prop :=
  ∃ x y : Int, e = .returned (.tuple #[.string (enc (Nat.gcd a b)), .agg #[.bool (zb x), .string (zs x)], .agg #[.bool (zb y), .string (zs y)]]) ∧
    (a : Int) * x + b * y = (Nat.gcd a b : Nat) ∧ x.natAbs ≤ max 1 b ∧ y.natAbs ≤ max 1 a ∧ (b = 0 → x = 1 ∧ y = 0) ∧ Below w.heap.size w w'
namespace Num
theorem bez_step {a b : Nat} {x y : Int} (h0 : 0 < b) (h : (b : Int) * x + (a % b : Nat) * y = (Nat.gcd b (a % b) : Nat)) (hx : x.natAbs ≤ max 1 (a % b)) (hy : y.natAbs ≤ max 1 b) (hz : a % b = 0 → x = 1 ∧ y = 0) :
    (a : Int) * y + b * (x - ((a / b : Nat) : Int) * y) = (Nat.gcd a b : Nat) ∧ (x - ((a / b : Nat) : Int) * y).natAbs ≤ max 1 a ∧ (((a / b : Nat) : Int) * y).natAbs ≤ max 1 a := by
  have hd := Nat.div_add_mod a b
  have hq : b * (a / b) ≤ a := by omega
  have h4 : (((a / b : Nat) : Int) * y).natAbs ≤ a / b * b := by
    rw [Int.natAbs_mul, Int.natAbs_natCast]
    exact Nat.mul_le_mul_left _ (by omega)
  rw [Nat.mul_comm] at h4
  refine ⟨?_, ?_, by omega⟩
  · have hg : Nat.gcd b (a % b) = Nat.gcd a b := by rw [Nat.gcd_comm a b, Nat.gcd_rec b a, Nat.gcd_comm]
    rw [← hg, ← h]
    have e : (a : Int) = b * ((a / b : Nat) : Int) + ((a % b : Nat) : Int) := by
      have : ((b * (a / b) + a % b : Nat) : Int) = a := by rw [hd]
      rw [Int.natCast_add, Int.natCast_mul] at this
      omega
    rw [Int.mul_sub, ← Int.mul_assoc]
    have e2 : (a : Int) * y = b * ((a / b : Nat) : Int) * y + ((a % b : Nat) : Int) * y := by
      conv => lhs; rw [e]
      rw [Int.add_mul]
    omega
  · rcases Nat.eq_zero_or_pos (a % b) with h5 | h5
    · obtain ⟨rfl, rfl⟩ := hz h5
      simp
      omega
    · omega
end Num
end Go.Proofs.YtdhhbjmkdmbffaaGreatDoor

/- The reference of layer 2: DivMod, Mod. -/
namespace Go.Proofs.YtdhhbjmkdmbffaaGreatDoor
open Go.RowKit Num
set_option maxRecDepth 20000
set_option linter.unusedVariables false
theorem results_ctt {fn : Func} {p u v : Tmp} (h : fn.results = #[.cell p 36, .tmp u, .tmp v]) (tmps : Array Value) (P : Program) (w : World) :
    (results fn tmps).run P w = ((asAddr (tmps.getD p undef)).run P w).andThen fun a w1 => ((loadVar 36 a).run P w1).andThen fun x w2 => .ok (.tuple #[x, tmps.getD u undef, tmps.getD v undef]) w2 := by
  simp only [results, h]
  simp [Sem.run_bind, Result.andThen]
theorem bodyPost_ctt {fn : Func} {R : Ending → World → Prop} {p u v : Tmp} {a : Act} {W : World} {b : Nat} {x y v0 v1 : Value} (h : fn.results = #[.cell p 36, .tmp u, .tmp v])
    (hp : a.tmps.getD p undef = .pointer (some ⟨b, 0, none⟩)) (hu : a.tmps.getD u undef = x) (hv : a.tmps.getD v undef = y)
    (hb : W.heap[b]? = some (.cells #[v0, v1] 36 (0, 0))) (hd : a.defers = []) (hR : R (.returned (.tuple #[.agg #[v0, v1], x, y])) W) : bodyPost Tryz.prog fn R Exit.ret a W := by
  refine bodyPost_ret (v := .tuple #[.agg #[v0, v1], x, y]) (w := W) ?_ hd hR
  rw [results_ctt h, hp, hu, hv]
  simp [asAddr, Result.andThen, run_loadVar_row W b _ _ _ (0, 0) _ hb Tryz.underlying36 rfl info_Int]
/-- what DivMod returns: the Euclidean quotient and remainder -/
def DmR (x : Int) (m : Nat) (w : World) (e : Ending) (w' : World) : Prop :=
  ∃ (q : Int) (r : Nat), e = .returned (.tuple #[.agg #[.bool (zb q), .string (zs q)], .string (enc r), .int .i64 0]) ∧ x = q * m + r ∧ r < m ∧ ZOk q ∧ q.natAbs ≤ x.natAbs ∧ Below w.heap.size w w'
namespace Num
theorem dm_pos {x : Int} {m : Nat} (h0 : 0 < m) (hx : 0 ≤ x) : x = ((x.natAbs / m : Nat) : Int) * m + ((x.natAbs % m : Nat) : Int) := by
  have h := Nat.div_add_mod x.natAbs m
  have h2 : ((m * (x.natAbs / m) + x.natAbs % m : Nat) : Int) = (x.natAbs : Nat) := by rw [h]
  rw [Int.natCast_add, Int.natCast_mul, Int.mul_comm] at h2
  omega
theorem dm_neg0 {x : Int} {m : Nat} (h0 : 0 < m) (hx : x < 0) (hr : x.natAbs % m = 0) : x = -((x.natAbs / m : Nat) : Int) * m + ((0 : Nat) : Int) := by
  have h := Nat.div_add_mod x.natAbs m
  have h2 : ((m * (x.natAbs / m) + x.natAbs % m : Nat) : Int) = (x.natAbs : Nat) := by rw [h]
  rw [Int.natCast_add, Int.natCast_mul, Int.mul_comm, hr] at h2
  rw [Int.neg_mul]
  omega
theorem dm_neg1 {x : Int} {m : Nat} (h0 : 0 < m) (hx : x < 0) (hr : 0 < x.natAbs % m) : x = -((x.natAbs / m + 1 : Nat) : Int) * m + ((m - x.natAbs % m : Nat) : Int) ∧ x.natAbs / m + 1 ≤ x.natAbs := by
  have h := Nat.div_add_mod x.natAbs m
  have hlt := Nat.mod_lt x.natAbs h0
  have h2 : ((m * (x.natAbs / m) + x.natAbs % m : Nat) : Int) = (x.natAbs : Nat) := by rw [h]
  rw [Int.natCast_add, Int.natCast_mul, Int.mul_comm] at h2
  refine ⟨?_, ?_⟩
  · rw [Int.natCast_add, Int.neg_mul, Int.add_mul]
    omega
  · rcases Nat.eq_zero_or_pos (x.natAbs / m) with h3 | h3
    · omega
    · have : x.natAbs / m ≤ m * (x.natAbs / m) := Nat.le_mul_of_pos_left _ h0
      omega
end Num
/-- two boxed integers and an empty result -/
theorem box3' (w : World) (a : Bool) (s : ByteArray) (b : Bool) (t : ByteArray) : ∃ w1, ((w.alloc (.cells #[.bool a, .string s] 36)).alloc (.cells #[.bool b, .string t] 36)).alloc (.cells #[.bool false, .string ⟨#[]⟩] 36) = w1 ∧
    IB w1 w.heap.size a s ∧ IB w1 (w.heap.size + 1) b t ∧ RBox w1 (w.heap.size + 1 + 1) ∧ w1.heap.size = w.heap.size + 3 ∧ Below w.heap.size w w1 := by
  have h2 := IB.new (w.alloc (.cells #[.bool a, .string s] 36)) b t
  have h3 := RBox.new ((w.alloc (.cells #[.bool a, .string s] 36)).alloc (.cells #[.bool b, .string t] 36))
  simp only [World.size_alloc] at h2 h3
  have e1 : ∀ (W : World) (o : Obj) (k : Nat), k < W.heap.size → (W.alloc o).heap[k]? = W.heap[k]? := fun W o k hk => Below.heap_alloc W o k hk
  refine ⟨_, rfl, ?_, ?_, h3, by simp, (((Below.refl _ w).alloc (Nat.le_refl _) _).alloc (by simp) _).alloc (by simp; omega) _⟩
  · exact (e1 _ _ _ (by simp; omega)).trans ((e1 _ _ _ (by simp)).trans (IB.new w a s))
  · exact (e1 _ _ _ (by simp)).trans h2
end Go.Proofs.YtdhhbjmkdmbffaaGreatDoor

/- The reference of layer 2: Mod, Extended. -/
namespace Go.Proofs.YtdhhbjmkdmbffaaGreatDoor
open Go.RowKit Num
set_option maxRecDepth 20000
set_option linter.unusedVariables false
namespace Num
theorem dm_mod {z q : Int} {m r : Nat} (h : z = q * m + r) (hr : r < m) : (z % (m : Int)).toNat = r := by
  rw [h, Int.add_comm, Int.add_mul_emod_self_right, Int.emod_eq_of_lt (by omega) (by omega)]
  rfl
theorem ext_q {b g m rr : Nat} {x q : Int} (hm : b = g * m) (hx : x.natAbs ≤ b) (hq : x = q * m + rr) (hr : rr < m) : q.natAbs ≤ g := by
  have hm' : (b : Int) = g * m := by rw [hm]; push_cast; rfl
  have hmp : (0 : Int) < m := by omega
  rcases Int.lt_or_le (g : Int) q with h | h
  · exfalso
    have h1 : ((g : Int) + 1) * m ≤ q * m := Int.mul_le_mul_of_nonneg_right (by omega) (by omega)
    rw [Int.add_mul] at h1
    omega
  · rcases Int.lt_or_le q (-(g : Int)) with h2 | h2
    · exfalso
      have h1 : q * m ≤ (-(g : Int) - 1) * m := Int.mul_le_mul_of_nonneg_right (by omega) (by omega)
      rw [Int.sub_mul, Int.neg_mul] at h1
      omega
    · omega
theorem ext_eq {a b g m k rr x y q : Int} (hm : b = g * m) (hk : a = g * k) (h : a * x + b * y = g) (hq : x = q * m + rr) : a * rr + b * (y + q * k) = g := by
  subst hm hk hq
  grind
theorem ext_y {a b g rr : Nat} {y : Int} (h0 : 0 < b) (hg : g ≤ b) (h : (a : Int) * rr + b * y = g) (hr : rr < b) : y.natAbs ≤ max a 1 := by
  have h3 : (a : Int) * rr ≤ a * (b - 1) := Int.mul_le_mul_of_nonneg_left (by omega) (by omega)
  rw [Int.mul_sub] at h3
  have h5 : (0 : Int) ≤ a * rr := Int.mul_nonneg (by omega) (by omega)
  rcases Int.lt_or_le 1 y with h1 | h1
  · exfalso
    have h2 : (b : Int) * 2 ≤ b * y := Int.mul_le_mul_of_nonneg_left (by omega) (by omega)
    omega
  · rcases Int.lt_or_le y (-(a : Int)) with h2 | h2
    · exfalso
      have h4 : (b : Int) * y ≤ b * (-(a : Int) - 1) := Int.mul_le_mul_of_nonneg_left (by omega) (by omega)
      rw [Int.mul_sub, Int.mul_neg, Int.mul_comm (b : Int) a] at h4
      omega
    · omega
theorem ext_fin {a b : Nat} {x y q : Int} {rr : Nat} (h0 : 0 < b) (h : (a : Int) * x + b * y = (Nat.gcd a b : Nat)) (hx : x.natAbs ≤ max 1 b) (hq : x = q * ((b / Nat.gcd a b : Nat) : Int) + rr) (hr : rr < b / Nat.gcd a b) :
    (a : Int) * rr + b * (y + q * ((a / Nat.gcd a b : Nat) : Int)) = (Nat.gcd a b : Nat) ∧ (y + q * ((a / Nat.gcd a b : Nat) : Int)).natAbs ≤ max a 1 ∧ (q * ((a / Nat.gcd a b : Nat) : Int)).natAbs ≤ a := by
  have hm : b = Nat.gcd a b * (b / Nat.gcd a b) := (Nat.mul_div_cancel' (Nat.gcd_dvd_right a b)).symm
  have hk : a = Nat.gcd a b * (a / Nat.gcd a b) := (Nat.mul_div_cancel' (Nat.gcd_dvd_left a b)).symm
  have hgb : Nat.gcd a b ≤ b := Nat.le_of_dvd h0 (Nat.gcd_dvd_right a b)
  have hmb : b / Nat.gcd a b ≤ b := Nat.div_le_self _ _
  generalize Nat.gcd a b = g at *
  generalize b / g = m at *
  generalize a / g = k at *
  have hm' : (b : Int) = g * m := by conv => lhs; rw [hm]
                                     push_cast; rfl
  have hk' : (a : Int) = g * k := by conv => lhs; rw [hk]
                                     push_cast; rfl
  have h1 := ext_eq (a := a) (b := b) (g := g) (m := m) (k := k) (rr := rr) hm' hk' h hq
  refine ⟨h1, ext_y h0 hgb h1 (by omega), ?_⟩
  have h2 := ext_q hm (by omega) hq hr
  rw [Int.natAbs_mul, Int.natAbs_natCast]
  calc q.natAbs * k ≤ g * k := Nat.mul_le_mul_right _ h2
    _ = a := hk.symm
end Num
end Go.Proofs.YtdhhbjmkdmbffaaGreatDoor

/- The reference of layer 2: Extended. -/
namespace Go.Proofs.YtdhhbjmkdmbffaaGreatDoor
open Go.RowKit Num
set_option maxRecDepth 20000
set_option linter.unusedVariables false
theorem BS.sety {w W : World} {p q : Nat} {x y : Int} (h : BS w W p q x y) (hpq : p ≠ q) (a : Int) : BS w ((W.setCell ⟨q, 0, none⟩ (.bool (zb a))).setCell ⟨q, 1, none⟩ (.string (zs a))) p q x a := by
  have ho := h.o
  have e : ∀ k, k ≠ q → ((W.setCell ⟨q, 0, none⟩ (.bool (zb a))).setCell ⟨q, 1, none⟩ (.string (zs a))).heap[k]? = W.heap[k]? := fun k hk => (Below.heap_setCell _ _ _ _ hk).trans (Below.heap_setCell _ _ _ _ hk)
  exact ⟨(e _ hpq).trans h.x, put2 h.y, (e _ (by omega)).trans h.r5, (e _ (by omega)).trans h.r6,
    (h.b.setCell (p := ⟨q, 0, none⟩) (by show _ ≤ q; omega) _).setCell (p := ⟨q, 1, none⟩) (by show _ ≤ q; omega) _, ho⟩
end Go.Proofs.YtdhhbjmkdmbffaaGreatDoor
