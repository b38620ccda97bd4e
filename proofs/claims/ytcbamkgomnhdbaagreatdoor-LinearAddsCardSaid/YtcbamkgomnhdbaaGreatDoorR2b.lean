import Derived.Test.YtcbamkgomnhdbaaGreatDoorR2
import Derived.Test.YtcbamkgomnhdbaaGreatDoorInv
import Derived.Test.YtcbamkgomnhdbaaGreatDoorPow
/- The reference of layer 2: bezout. -/
namespace Go.Proofs.YtcbamkgomnhdbaaGreatDoor
open Go.RowKit Num
set_option maxRecDepth 20000
set_option linter.unusedVariables false
/-- two variables, and two results still empty -/
structure BS (w W : World) (p q : Nat) (x y : Int) : Prop where
  x : ZBox W p x
  y : ZBox W q y
  r5 : RBox W w.heap.size
  r6 : RBox W (w.heap.size + 1)
  b : Below w.heap.size w W
  o : w.heap.size + 1 < p ∧ w.heap.size + 1 < q
section
variable {w W W' : World} {p q : Nat} {x y : Int}
theorem BS.below (h : BS w W p q x y) (hb : Below W.heap.size W W') : BS w W' p q x y :=
  ⟨h.x.below hb h.x.lt, h.y.below hb h.y.lt, h.r5.below hb h.r5.lt, h.r6.below hb h.r6.lt, h.b.trans (hb.mono h.b.size), h.o⟩
theorem BS.alloc (h : BS w W p q x y) (o : Obj) : BS w (W.alloc o) p q x y := h.below ((Below.refl _ W).alloc (Nat.le_refl _) o)
theorem BS.drew (h : BS w W p q x y) : BS w W.drew p q x y := ⟨h.x, h.y, h.r5, h.r6, h.b.drew, h.o⟩
theorem two_out (r5 : RBox W w.heap.size) (r6 : RBox W (w.heap.size + 1)) (hb : Below w.heap.size w W) (u0 u1 v0 v1 : Value) :
    ∃ W', (((W.setCell ⟨w.heap.size, 0, none⟩ u0).setCell ⟨w.heap.size, 1, none⟩ u1).setCell ⟨w.heap.size + 1, 0, none⟩ v0).setCell ⟨w.heap.size + 1, 1, none⟩ v1 = W' ∧
      W'.heap[w.heap.size]? = some (.cells #[u0, u1] 54 (0, 0)) ∧ W'.heap[w.heap.size + 1]? = some (.cells #[v0, v1] 54 (0, 0)) ∧ Below w.heap.size w W' := by
  refine ⟨_, rfl, ?_, ?_, ?_⟩
  · exact (Below.heap_setCell _ _ _ _ (by simp)).trans ((Below.heap_setCell _ _ _ _ (by simp)).trans (put2 r5))
  · exact put2 ((Below.heap_setCell _ _ _ _ (by simp)).trans ((Below.heap_setCell _ _ _ _ (by simp)).trans r6))
  · exact (((hb.setCell (p := ⟨w.heap.size, 0, none⟩) (Nat.le_refl _) _).setCell (p := ⟨w.heap.size, 1, none⟩) (Nat.le_refl _) _).setCell (p := ⟨w.heap.size + 1, 0, none⟩) (Nat.le_succ _) _).setCell (p := ⟨w.heap.size + 1, 1, none⟩) (Nat.le_succ _) _
theorem BS.out (h : BS w W p q x y) (u0 u1 v0 v1 : Value) :
    ∃ W', (((W.setCell ⟨w.heap.size, 0, none⟩ u0).setCell ⟨w.heap.size, 1, none⟩ u1).setCell ⟨w.heap.size + 1, 0, none⟩ v0).setCell ⟨w.heap.size + 1, 1, none⟩ v1 = W' ∧
      W'.heap[w.heap.size]? = some (.cells #[u0, u1] 54 (0, 0)) ∧ W'.heap[w.heap.size + 1]? = some (.cells #[v0, v1] 54 (0, 0)) ∧ Below w.heap.size w W' := by
  exact two_out h.r5 h.r6 h.b u0 u1 v0 v1
theorem BS.put (h : BS w W p q x y) {r : Nat} (h1 : p < r) (h2 : q < r) (u v : Value) : BS w ((W.setCell ⟨r, 0, none⟩ u).setCell ⟨r, 1, none⟩ v) p q x y := by
  have ho := h.o
  have e : ∀ k, k ≠ r → ((W.setCell ⟨r, 0, none⟩ u).setCell ⟨r, 1, none⟩ v).heap[k]? = W.heap[k]? := fun k hk => (Below.heap_setCell _ _ _ _ hk).trans (Below.heap_setCell _ _ _ _ hk)
  exact ⟨(e _ (by omega)).trans h.x, (e _ (by omega)).trans h.y, (e _ (by omega)).trans h.r5, (e _ (by omega)).trans h.r6,
    (h.b.setCell (p := ⟨r, 0, none⟩) (by show _ ≤ r; omega) _).setCell (p := ⟨r, 1, none⟩) (by show _ ≤ r; omega) _, ho⟩
theorem BS.new (h5 : RBox W w.heap.size) (h6 : RBox W (w.heap.size + 1)) (hb : Below w.heap.size w W) (x y : Int) (ho : w.heap.size + 1 < W.heap.size) :
    BS w ((W.alloc (.cells #[.bool (zb x), .string (zs x)] 54)).alloc (.cells #[.bool (zb y), .string (zs y)] 54)) W.heap.size (W.heap.size + 1) x y := by
  have b2 : Below W.heap.size W ((W.alloc (.cells #[.bool (zb x), .string (zs x)] 54)).alloc (.cells #[.bool (zb y), .string (zs y)] 54)) := ((Below.refl _ W).alloc (Nat.le_refl _) _).alloc (by simp) _
  have hy := ZBox.new (W.alloc (.cells #[.bool (zb x), .string (zs x)] 54)) y
  rw [World.size_alloc] at hy
  exact ⟨(ZBox.new W x).alloc _, hy, h5.below b2 h5.lt, h6.below b2 h6.lt, hb.trans (b2.mono hb.size), ho, by omega⟩
end
theorem results_bez {fn : Func} {p q t : Tmp} (h : fn.results = #[.tmp t, .cell p 54, .cell q 54]) (tmps : Array Value) (P : Program) (w : World) :
    (results fn tmps).run P w =
      ((asAddr (tmps.getD p undef)).run P w).andThen fun a w1 => ((loadVar 54 a).run P w1).andThen fun v w2 =>
        ((asAddr (tmps.getD q undef)).run P w2).andThen fun b w3 => ((loadVar 54 b).run P w3).andThen fun v' w4 => .ok (.tuple #[tmps.getD t undef, v, v']) w4 := by
  simp only [results, h]
  simp [Sem.run_bind, Result.andThen]
theorem bodyPost_bez {fn : Func} {R : Ending → World → Prop} {p q t : Tmp} {a : Act} {W : World} {b c : Nat} {g v0 v1 u0 u1 : Value} (h : fn.results = #[.tmp t, .cell p 54, .cell q 54])
    (ht : a.tmps.getD t undef = g) (hp : a.tmps.getD p undef = .pointer (some ⟨b, 0, none⟩)) (hq : a.tmps.getD q undef = .pointer (some ⟨c, 0, none⟩))
    (hb : W.heap[b]? = some (.cells #[v0, v1] 54 (0, 0))) (hc : W.heap[c]? = some (.cells #[u0, u1] 54 (0, 0))) (hd : a.defers = [])
    (hR : R (.returned (.tuple #[g, .agg #[v0, v1], .agg #[u0, u1]])) W) : bodyPost Tryz.prog fn R Exit.ret a W := by
  refine bodyPost_ret (v := .tuple #[g, .agg #[v0, v1], .agg #[u0, u1]]) (w := W) ?_ hd hR
  rw [results_bez h, hp, hq, ht]
  simp [asAddr, Result.andThen, run_loadVar_row W b _ _ _ (0, 0) _ hb Tryz.underlying54 rfl info_Int, run_loadVar_row W c _ _ _ (0, 0) _ hc Tryz.underlying54 rfl info_Int]
/-- what bezout returns -/
def BezR (a b : Nat) (w : World) (e : Ending) (w' : World) : Prop :=
  ∃ x y : Int, e = .returned (.tuple #[.string (enc (Nat.gcd a b)), .agg #[.bool (zb x), .string (zs x)], .agg #[.bool (zb y), .string (zs y)]]) ∧
    (a : Int) * x + b * y = (Nat.gcd a b : Nat) ∧ x.natAbs ≤ max 1 b ∧ y.natAbs ≤ max 1 a ∧ (b = 0 → x = 1 ∧ y = 0) ∧ Below w.heap.size w w'
namespace Num
theorem bez_step {a b : Nat} {x y : Int} (h0 : 0 < b) (h : (b : Int) * x + (a % b : Nat) * y = (Nat.gcd b (a % b) : Nat)) (hx : x.natAbs ≤ max 1 (a % b)) (hy : y.natAbs ≤ max 1 b) (hz : a % b = 0 → x = 1 ∧ y = 0) :
    (a : Int) * y + b * (x - ((a / b : Nat) : Int) * y) = (Nat.gcd a b : Nat) ∧ (x - ((a / b : Nat) : Int) * y).natAbs ≤ max 1 a ∧ (((a / b : Nat) : Int) * y).natAbs ≤ max 1 a := by
  have hd := Nat.div_add_mod a b
  have hq : b * (a / b) ≤ a := by omega
  have h4 : (((a / b : Nat) : Int) * y).natAbs ≤ a / b * b := by
    rw [Int.natAbs_mul, Int.natAbs_natCast]
    exact Nat.mul_le_mul_left _ (by omega)
  rw [Nat.mul_comm] at h4
  refine ⟨?_, ?_, by omega⟩
  · have hg : Nat.gcd b (a % b) = Nat.gcd a b := by rw [Nat.gcd_comm a b, Nat.gcd_rec b a, Nat.gcd_comm]
    rw [← hg, ← h]
    have e : (a : Int) = b * ((a / b : Nat) : Int) + ((a % b : Nat) : Int) := by
      have : ((b * (a / b) + a % b : Nat) : Int) = a := by rw [hd]
      rw [Int.natCast_add, Int.natCast_mul] at this
      omega
    rw [Int.mul_sub, ← Int.mul_assoc]
    have e2 : (a : Int) * y = b * ((a / b : Nat) : Int) * y + ((a % b : Nat) : Int) * y := by
      conv => lhs; rw [e]
      rw [Int.add_mul]
    omega
  · rcases Nat.eq_zero_or_pos (a % b) with h5 | h5
    · obtain ⟨rfl, rfl⟩ := hz h5
      simp
      omega
    · omega
end Num
set_option maxHeartbeats 4000000 in
theorem refBez_z : ∀ (b a : Nat) (w : World), blen a ≤ 128 → blen b ≤ 128 → Calls Tryz.prog 201 #[.string (enc a), .string (enc b)] w (BezR a b w) := by
  intro b
  induction b using Nat.strongRecOn with
  | _ b ih =>
    intro a w ha hb
    have HA := Lib.hid (IsN.mk' ha)
    have HB := Lib.hid (IsN.mk' hb)
    rcases Nat.eq_zero_or_pos b with h0 | h0
    · subst h0
      rw [enc_zero]
      clear ih
      have HFIN : Hid (∀ W', Below w.heap.size w W' → BezR a 0 w (.returned (.tuple #[.string (enc a), .agg #[.bool (zb 1), .string (zs 1)], .agg #[.bool (zb 0), .string (zs 0)]])) W') :=
        fun W' hB => ⟨1, 0, by rw [Nat.gcd_zero_right], by simp, by simp, by simp, fun _ => ⟨rfl, rfl⟩, hB⟩
      clear ha hb
      go_enter Tryz.func201, Tryz.ntmps201
      go_wp2_with fail
      have r5 := (RBox.new w).alloc (.cells #[.bool false, .string ⟨#[]⟩] 54)
      have r6 := RBox.new (w.alloc (.cells #[.bool false, .string ⟨#[]⟩] 54))
      rw [World.size_alloc] at r6
      have b1 := ((Below.refl _ w).alloc (Nat.le_refl _) (.cells #[.bool false, .string ⟨#[]⟩] 54)).alloc (by simp) (.cells #[.bool false, .string ⟨#[]⟩] 54)
      generalize World.alloc _ _ = w1 at r5 r6 b1 ⊢
      refine (ref2Of_z 1 _ (by omega)).mono ?_; rintro e w2 ⟨rfl, b2⟩
      replace r5 := r5.below b2 r5.lt
      replace r6 := r6.below b2 r6.lt
      replace b1 := bbl b1 b2
      go_wp2_with fail
      refine (ref2Of_z 0 _ (by omega)).mono ?_; rintro e w3 ⟨rfl, b3⟩
      replace r5 := r5.below b3 r5.lt
      replace r6 := r6.below b3 r6.lt
      replace b1 := bbl b1 b3
      have f0 := r5.f0
      have f1 := r5.f1
      have f2 := r6.f0
      have f3 := r6.f1
      have k0 := r5.c0
      have k1 := r5.c1
      have k2 := r6.c0
      have k3 := r6.c1
      go_wp2_with fail
      obtain ⟨W', hW', q1, q2, q3⟩ := two_out r5 r6 b1 (.bool (zb 1)) (.string (zs 1)) (.bool (zb 0)) (.string (zs 0))
      rw [hW']
      exact bodyPost_bez rfl rfl rfl rfl q1 q2 rfl (HFIN.out _ q3)
    · have ne := (notEmpty_enc h0).1
      have ne' := toList_enc_nil h0
      have hr : blen (a % b) ≤ 128 := Nat.le_trans (blen_mono (Nat.le_of_lt (Nat.mod_lt a h0))) hb
      have IH := Lib.hid (fun w => ih (a % b) (Nat.mod_lt a h0) b w hb hr)
      have HQ := Lib.hid (show blen (a / b) ≤ 128 from Nat.le_trans (blen_mono (Nat.div_le_self a b)) ha)
      have HAL := Lib.hid ha
      have HBL := Lib.hid hb
      clear ih ha hb hr
      go_enter Tryz.func201, Tryz.ntmps201
      go_wp2_with fail
      have r5 := (RBox.new w).alloc (.cells #[.bool false, .string ⟨#[]⟩] 54)
      have r6 := RBox.new (w.alloc (.cells #[.bool false, .string ⟨#[]⟩] 54))
      rw [World.size_alloc] at r6
      have b1 := ((Below.refl _ w).alloc (Nat.le_refl _) (.cells #[.bool false, .string ⟨#[]⟩] 54)).alloc (by simp) (.cells #[.bool false, .string ⟨#[]⟩] 54)
      generalize World.alloc _ _ = w1 at r5 r6 b1 ⊢
      refine (refDivMod_any _ _ a b _ HA.out HB.out h0).mono ?_; rintro e w2 ⟨rfl, b2⟩
      replace r5 := r5.below b2 r5.lt
      replace r6 := r6.below b2 r6.lt
      replace b1 := bbl b1 b2
      clear b2
      go_wp2_with fail
      refine (IH.out _).mono ?_
      rintro e w3 ⟨x, y, rfl, hxy, hx, hy, hz, b3⟩
      replace r5 := r5.below b3 r5.lt
      replace r6 := r6.below b3 r6.lt
      replace b1 := bbl b1 b3
      have hS := BS.new r5 r6 b1 x y r6.lt
      obtain ⟨hfa, hfb, hfc⟩ := bez_step h0 hxy hx hy hz
      have zx : ZOk x := Nat.le_trans (blen_mono (show x.natAbs ≤ max b 1 by have := Nat.mod_lt a h0; omega)) (blen_max1 HBL.out)
      have zy : ZOk y := Nat.le_trans (blen_mono (show y.natAbs ≤ max b 1 by omega)) (blen_max1 HBL.out)
      have zq : ZOk (((a / b : Nat) : Int) * y) := Nat.le_trans (blen_mono (show _ ≤ max a 1 by omega)) (blen_max1 HAL.out)
      have zd : ZOk (x - ((a / b : Nat) : Int) * y) := Nat.le_trans (blen_mono (show _ ≤ max a 1 by omega)) (blen_max1 HAL.out)
      have hyb : y.natAbs ≤ max 1 b := hy
      have hgg : Nat.gcd b (a % b) = Nat.gcd a b := by rw [Nat.gcd_comm a b, Nat.gcd_rec b a, Nat.gcd_comm]
      have HFIN : Hid (∀ W', Below w.heap.size w W' → BezR a b w (.returned (.tuple #[.string (enc (Nat.gcd b (a % b))), .agg #[.bool (zb y), .string (zs y)], .agg #[.bool (zb (x - ((a / b : Nat) : Int) * y)), .string (zs (x - ((a / b : Nat) : Int) * y))]])) W') :=
        fun W' hB => ⟨y, _, by rw [hgg], hfa, hyb, hfb, fun e => by omega, hB⟩
      have ZO := Lib.hid (And.intro zx (And.intro zy (And.intro zq zd)))
      clear hfa hfb hfc zx zy zq zd hyb hgg hxy hx hy hz b1 b3 IH ne ne'
      generalize Nat.gcd b (a % b) = g at HFIN ⊢
      generalize a / b = qq at HFIN HQ ZO ⊢
      clear r5 r6
      go_wp2_with fail
      generalize w3.heap.size = p at hS ⊢
      generalize World.alloc _ _ = w4 at hS ⊢
      go_cut [13, 14] from 36 (fun s13 s14 wc => ∃ r : Nat, s13 = .pointer (some ⟨r, 0, none⟩) ∧ (∃ v, s14 = v) ∧ ZBox wc r ((qq : Int) * y) ∧ BS w wc p (p + 1) x y)
      case first =>
        have hSd : BS w w4.drew p (p + 1) x y := hS.drew
        have c0 := hSd.y.c0
        have c1 := hSd.y.c1
        have hS1 : BS w (w4.alloc (.cells #[.bool false, .string ⟨#[]⟩] 54)).drew p (p + 1) x y := (hS.alloc _).drew
        have a0 : (w4.alloc (.cells #[.bool false, .string ⟨#[]⟩] 54)).drew.cell? ⟨p + 1, 0, none⟩ = some (.bool (zb y)) := hS1.y.c0
        have a1 : (w4.alloc (.cells #[.bool false, .string ⟨#[]⟩] 54)).drew.cell? ⟨p + 1, 1, none⟩ = some (.string (zs y)) := hS1.y.c1
        have a2 : (w4.alloc (.cells #[.bool false, .string ⟨#[]⟩] 54)).cell? ⟨p + 1, 0, none⟩ = some (.bool (zb y)) := hS1.y.c0
        have a3 : (w4.alloc (.cells #[.bool false, .string ⟨#[]⟩] 54)).cell? ⟨p + 1, 1, none⟩ = some (.string (zs y)) := hS1.y.c1
        have hp1 : p < w4.heap.size := hS.x.lt
        have hp2 : p + 1 < w4.heap.size := hS.y.lt
        go_region_with (first
          | ((with_reducible refine (ref2From_z qq _ HQ.out).mono ?_); rintro e w5 ⟨rfl, b5⟩; (first | have hS5 := hSd.below b5 | have hS5 := hS1.below b5); (first | (have r5 : RBox w5 w4.heap.size := (RBox.new w4).drew.below b5 (RBox.new w4).lt) | skip); have z5 := b5.size; have d0 := hS5.y.c0; have d1 := hS5.y.c1; have t5 := hS5.alloc (.cells #[.bool false, .string ⟨#[]⟩] 54); have g0 := t5.y.c0; have g1 := t5.y.c1)
          | ((with_reducible refine (ref2Mul_z (qq : Int) y _ (zok_nat HQ.out) ZO.out.2.1 ZO.out.2.2.1).mono ?_); rintro e w6 ⟨rfl, b6⟩; (first | have hS6 := hS5.below b6 | have hS6 := (hS5.alloc _).below b6); (first | have r6 := r5.below b6 r5.lt | have r6 := (RBox.new _).below b6 (by simp) | have r6 := trivial); (first | (have f0 := r6.f0; have f1 := r6.f1; have e0 := r6.c0; have e1 := r6.c1) | skip)))
        all_goals (go_wp2_with fail; go_meet)
        all_goals first
          | exact ⟨_, rfl, ⟨_, rfl⟩, put2 r6, hS6.put (by have := hS.x.lt; have := hS5.x.lt; simp at *; omega) (by have := hS.y.lt; have := hS5.y.lt; simp at *; omega) _ _⟩
          | exact ⟨_, rfl, ⟨_, rfl⟩, ZBox.new _ _, hS6.alloc _⟩
          | exact ⟨_, rfl, ⟨_, rfl⟩, put2 (RBox.new _), (hS6.alloc _).put (by have := hS6.x.lt; simp at *; omega) (by have := hS6.y.lt; simp at *; omega) _ _⟩
      case rest =>
        clear hS
        obtain ⟨r, rfl, ⟨_, rfl⟩, hr, hS⟩ := hcut
        have c0 := hS.x.c0
        have c1 := hS.x.c1
        have c2 := hr.c0
        have c3 := hr.c1
        go_wp2_with fail
        refine (ref2Sub_z x _ _ ZO.out.1 ZO.out.2.2.1 ZO.out.2.2.2).mono ?_
        rintro e w7 ⟨rfl, b7⟩
        replace hS := hS.below b7
        obtain ⟨w8, hw8, hS8, hz8⟩ : ∃ w8, w7.alloc (.cells #[.bool (zb (x - (qq : Int) * y)), .string (zs (x - (qq : Int) * y))] 54) = w8 ∧ BS w w8 p (p + 1) x y ∧ ZBox w8 w7.heap.size (x - (qq : Int) * y) := ⟨_, rfl, hS.alloc _, ZBox.new _ _⟩
        obtain ⟨ho1, ho2⟩ := hS8.o
        have ho3 : w.heap.size + 1 < w7.heap.size := by have := hS.x.lt; omega
        clear c0 c1 c2 c3 b7 hr
        generalize x - (qq : Int) * y = yy at *
        go_wp2_with fail
        clear hw8
        generalize w7.heap.size = n8 at hz8 ho3 ⊢
        have f0 := hS8.r5.f0
        have f1 := hS8.r5.f1
        have f2 := hS8.r6.f0
        have f3 := hS8.r6.f1
        have k0 := hS8.r5.c0
        have k1 := hS8.r5.c1
        have k2 := hS8.r6.c0
        have k3 := hS8.r6.c1
        have d0 := hS8.y.c0
        have d1 := hS8.y.c1
        have d2 := hz8.c0
        have d3 := hz8.c1
        go_region
        all_goals
          go_wp2_with fail
          obtain ⟨W', hW', q1, q2, q3⟩ := hS8.out (.bool (zb y)) (.string (zs y)) (.bool (zb yy)) (.string (zs yy))
          rw [hW']
          exact bodyPost_bez rfl rfl rfl rfl (W := W'.drew) q1 q2 rfl (HFIN.out _ q3.drew)
end Go.Proofs.YtcbamkgomnhdbaaGreatDoor

/- The reference of layer 2: DivMod, Mod. -/
namespace Go.Proofs.YtcbamkgomnhdbaaGreatDoor
open Go.RowKit Num
set_option maxRecDepth 20000
set_option linter.unusedVariables false
theorem results_ctt {fn : Func} {p u v : Tmp} (h : fn.results = #[.cell p 54, .tmp u, .tmp v]) (tmps : Array Value) (P : Program) (w : World) :
    (results fn tmps).run P w = ((asAddr (tmps.getD p undef)).run P w).andThen fun a w1 => ((loadVar 54 a).run P w1).andThen fun x w2 => .ok (.tuple #[x, tmps.getD u undef, tmps.getD v undef]) w2 := by
  simp only [results, h]
  simp [Sem.run_bind, Result.andThen]
theorem bodyPost_ctt {fn : Func} {R : Ending → World → Prop} {p u v : Tmp} {a : Act} {W : World} {b : Nat} {x y v0 v1 : Value} (h : fn.results = #[.cell p 54, .tmp u, .tmp v])
    (hp : a.tmps.getD p undef = .pointer (some ⟨b, 0, none⟩)) (hu : a.tmps.getD u undef = x) (hv : a.tmps.getD v undef = y)
    (hb : W.heap[b]? = some (.cells #[v0, v1] 54 (0, 0))) (hd : a.defers = []) (hR : R (.returned (.tuple #[.agg #[v0, v1], x, y])) W) : bodyPost Tryz.prog fn R Exit.ret a W := by
  refine bodyPost_ret (v := .tuple #[.agg #[v0, v1], x, y]) (w := W) ?_ hd hR
  rw [results_ctt h, hp, hu, hv]
  simp [asAddr, Result.andThen, run_loadVar_row W b _ _ _ (0, 0) _ hb Tryz.underlying54 rfl info_Int]
/-- what DivMod returns: the Euclidean quotient and remainder -/
def DmR (x : Int) (m : Nat) (w : World) (e : Ending) (w' : World) : Prop :=
  ∃ (q : Int) (r : Nat), e = .returned (.tuple #[.agg #[.bool (zb q), .string (zs q)], .string (enc r), .int .i64 0]) ∧ x = q * m + r ∧ r < m ∧ ZOk q ∧ q.natAbs ≤ x.natAbs ∧ Below w.heap.size w w'
namespace Num
theorem dm_pos {x : Int} {m : Nat} (h0 : 0 < m) (hx : 0 ≤ x) : x = ((x.natAbs / m : Nat) : Int) * m + ((x.natAbs % m : Nat) : Int) := by
  have h := Nat.div_add_mod x.natAbs m
  have h2 : ((m * (x.natAbs / m) + x.natAbs % m : Nat) : Int) = (x.natAbs : Nat) := by rw [h]
  rw [Int.natCast_add, Int.natCast_mul, Int.mul_comm] at h2
  omega
theorem dm_neg0 {x : Int} {m : Nat} (h0 : 0 < m) (hx : x < 0) (hr : x.natAbs % m = 0) : x = -((x.natAbs / m : Nat) : Int) * m + ((0 : Nat) : Int) := by
  have h := Nat.div_add_mod x.natAbs m
  have h2 : ((m * (x.natAbs / m) + x.natAbs % m : Nat) : Int) = (x.natAbs : Nat) := by rw [h]
  rw [Int.natCast_add, Int.natCast_mul, Int.mul_comm, hr] at h2
  rw [Int.neg_mul]
  omega
theorem dm_neg1 {x : Int} {m : Nat} (h0 : 0 < m) (hx : x < 0) (hr : 0 < x.natAbs % m) : x = -((x.natAbs / m + 1 : Nat) : Int) * m + ((m - x.natAbs % m : Nat) : Int) ∧ x.natAbs / m + 1 ≤ x.natAbs := by
  have h := Nat.div_add_mod x.natAbs m
  have hlt := Nat.mod_lt x.natAbs h0
  have h2 : ((m * (x.natAbs / m) + x.natAbs % m : Nat) : Int) = (x.natAbs : Nat) := by rw [h]
  rw [Int.natCast_add, Int.natCast_mul, Int.mul_comm] at h2
  refine ⟨?_, ?_⟩
  · rw [Int.natCast_add, Int.neg_mul, Int.add_mul]
    omega
  · rcases Nat.eq_zero_or_pos (x.natAbs / m) with h3 | h3
    · omega
    · have : x.natAbs / m ≤ m * (x.natAbs / m) := Nat.le_mul_of_pos_left _ h0
      omega
end Num
/-- two boxed integers and an empty result -/
theorem box3' (w : World) (a : Bool) (s : ByteArray) (b : Bool) (t : ByteArray) : ∃ w1, ((w.alloc (.cells #[.bool a, .string s] 54)).alloc (.cells #[.bool b, .string t] 54)).alloc (.cells #[.bool false, .string ⟨#[]⟩] 54) = w1 ∧
    IB w1 w.heap.size a s ∧ IB w1 (w.heap.size + 1) b t ∧ RBox w1 (w.heap.size + 1 + 1) ∧ w1.heap.size = w.heap.size + 3 ∧ Below w.heap.size w w1 := by
  have h2 := IB.new (w.alloc (.cells #[.bool a, .string s] 54)) b t
  have h3 := RBox.new ((w.alloc (.cells #[.bool a, .string s] 54)).alloc (.cells #[.bool b, .string t] 54))
  simp only [World.size_alloc] at h2 h3
  have e1 : ∀ (W : World) (o : Obj) (k : Nat), k < W.heap.size → (W.alloc o).heap[k]? = W.heap[k]? := fun W o k hk => Below.heap_alloc W o k hk
  refine ⟨_, rfl, ?_, ?_, h3, by simp, (((Below.refl _ w).alloc (Nat.le_refl _) _).alloc (by simp) _).alloc (by simp; omega) _⟩
  · exact (e1 _ _ _ (by simp; omega)).trans ((e1 _ _ _ (by simp)).trans (IB.new w a s))
  · exact (e1 _ _ _ (by simp)).trans h2
set_option maxHeartbeats 4000000 in
theorem ref2Dm_pos (n m : Nat) (w : World) (hn : blen n ≤ 128) (hm : blen m ≤ 128) (h0 : 0 < m) :
    Calls Tryz.prog 202 #[.agg #[.bool false, .string (enc n)], .agg #[.bool false, .string (enc m)]] w fun e w' => e = .returned (.tuple #[.agg #[.bool false, .string (enc (n / m))], .string (enc (n % m)), .int .i64 0]) ∧ Below w.heap.size w w' := by
  have HV2 := Lib.hid (show (validB (enc m) && !(false && (enc m).toList.isEmpty)) = true by rw [(IsN.mk' hm).valid]; rfl)
  have HM := Lib.hid (IsN.mk' hm)
  have HN := Lib.hid (IsN.mk' hn)
  have nm := (notEmpty_enc h0).1
  have nm' := toList_enc_nil h0
  have HV1 := Lib.hid (show (validB (enc n) && !(false && (enc n).toList.isEmpty)) = true by rw [(IsN.mk' hn).valid]; rfl)
  clear hn hm
  obtain ⟨w1, hw1, bx, by', br, hs1, b1⟩ := box3' w false (enc n) false (enc m)
  have k0 := bx.c0
  have k1 := bx.c1
  have k2 := by'.c0
  have k3 := by'.c1
  go_enter Tryz.func202, Tryz.ntmps202
  go_wp2_with fail
  clear k0 k1 k2 k3
  refine (ref2Valid_any false (enc n) _).mono ?_; rw [HV1.out]
  rintro e w2 ⟨rfl, b2⟩
  have x2 := bx.below b2 bx.lt
  have y2 := by'.below b2 by'.lt
  have r2 := br.below b2 br.lt
  replace b2 := bbl b1 b2
  clear bx by' br b1 hs1 hw1
  have k2 := y2.c0
  have k3 := y2.c1
  go_wp2_with fail
  clear k2 k3
  refine (ref2Valid_any false (enc m) _).mono ?_; rw [HV2.out]
  rintro e w3 ⟨rfl, b3⟩
  have x3 := x2.below b3 x2.lt
  have y3 := y2.below b3 y2.lt
  have r3 := r2.below b3 r2.lt
  replace b3 := bbl b2 b3
  clear x2 y2 r2 b2
  have c0 := x3.c0
  have c1 := x3.c1
  have c2 := y3.c0
  have c3 := y3.c1
  go_wp2_with fail
  clear c0 c1 c2 c3
  refine (refDivMod_any _ _ n m _ HN.out HM.out h0).mono ?_; rintro e w4 ⟨rfl, b4⟩
  have x4 := x3.below b4 x3.lt
  have y4 := y3.below b4 y3.lt
  have r4 := r3.below b4 r3.lt
  replace b4 := bbl b3 b4
  clear x3 y3 r3 b3
  have c0 := x4.c0
  have c1 := x4.c1
  have c2 := y4.c0
  have c3 := y4.c1
  go_wp2_with fail
  refine (refMake_any _ _ _).mono ?_; rintro e w8 ⟨rfl, b8⟩
  have r8 := r4.below b8 r4.lt
  replace b8 := bbl b4 b8
  have f0 := r8.f0
  have f1 := r8.f1
  have g0 := r8.c0
  have g1 := r8.c1
  clear c0 c1 c2 c3 x4 y4 r4 b4
  go_wp2_with fail
  refine bodyPost_ctt rfl rfl rfl rfl (put2 r8) rfl ⟨rfl, ?_⟩
  exact (b8.setCell (p := ⟨w.heap.size + 1 + 1, 0, none⟩) (by simp; omega) _).setCell (p := ⟨w.heap.size + 1 + 1, 1, none⟩) (by simp; omega) _
set_option maxHeartbeats 4000000 in
theorem ref2Dm_neg0 (n m : Nat) (w : World) (hn : blen n ≤ 128) (hm : blen m ≤ 128) (h0 : 0 < m) (hp : 0 < n) (hr : n % m = 0) :
    Calls Tryz.prog 202 #[.agg #[.bool true, .string (enc n)], .agg #[.bool false, .string (enc m)]] w fun e w' => e = .returned (.tuple #[.agg #[.bool true, .string (enc (n / m))], .string (enc 0), .int .i64 0]) ∧ Below w.heap.size w w' := by
  have HV2 := Lib.hid (show (validB (enc m) && !(false && (enc m).toList.isEmpty)) = true by rw [(IsN.mk' hm).valid]; rfl)
  have HM := Lib.hid (IsN.mk' hm)
  have HN := Lib.hid (IsN.mk' hn)
  have nm := (notEmpty_enc h0).1
  have nm' := toList_enc_nil h0
  have HV1 := Lib.hid (show (validB (enc n) && !(true && (enc n).toList.isEmpty)) = true by rw [(IsN.mk' hn).valid, toList_enc_nil hp]; rfl)
  have hq1 : 0 < n / m := by
    rcases Nat.eq_zero_or_pos (n / m) with h | h
    · have := Nat.div_add_mod n m; rw [h, hr] at this; omega
    · exact h
  have hq2 := toList_enc_nil hq1
  have HR := Lib.hid hr
  rw [enc_zero]
  have hp' := hp
  clear hn hm hr hq1 hp hp'
  obtain ⟨w1, hw1, bx, by', br, hs1, b1⟩ := box3' w true (enc n) false (enc m)
  have k0 := bx.c0
  have k1 := bx.c1
  have k2 := by'.c0
  have k3 := by'.c1
  go_enter Tryz.func202, Tryz.ntmps202
  go_wp2_with fail
  clear k0 k1 k2 k3
  refine (ref2Valid_any true (enc n) _).mono ?_; rw [HV1.out]
  rintro e w2 ⟨rfl, b2⟩
  have x2 := bx.below b2 bx.lt
  have y2 := by'.below b2 by'.lt
  have r2 := br.below b2 br.lt
  replace b2 := bbl b1 b2
  clear bx by' br b1 hs1 hw1
  have k2 := y2.c0
  have k3 := y2.c1
  go_wp2_with fail
  clear k2 k3
  refine (ref2Valid_any false (enc m) _).mono ?_; rw [HV2.out]
  rintro e w3 ⟨rfl, b3⟩
  have x3 := x2.below b3 x2.lt
  have y3 := y2.below b3 y2.lt
  have r3 := r2.below b3 r2.lt
  replace b3 := bbl b2 b3
  clear x2 y2 r2 b2
  have c0 := x3.c0
  have c1 := x3.c1
  have c2 := y3.c0
  have c3 := y3.c1
  go_wp2_with fail
  clear c0 c1 c2 c3
  refine (refDivMod_any _ _ n m _ HN.out HM.out h0).mono ?_; rw [HR.out, enc_zero]; rintro e w4 ⟨rfl, b4⟩
  have x4 := x3.below b4 x3.lt
  have y4 := y3.below b4 y3.lt
  have r4 := r3.below b4 r3.lt
  replace b4 := bbl b3 b4
  clear x3 y3 r3 b3
  have c0 := x4.c0
  have c1 := x4.c1
  have c2 := y4.c0
  have c3 := y4.c1
  go_wp2_with fail
  refine (refMake_any _ _ _).mono ?_; rintro e w8 ⟨rfl, b8⟩
  have r8 := r4.below b8 r4.lt
  replace b8 := bbl b4 b8
  have f0 := r8.f0
  have f1 := r8.f1
  have g0 := r8.c0
  have g1 := r8.c1
  clear c0 c1 c2 c3 x4 y4 r4 b4
  go_wp2_with fail
  refine bodyPost_ctt rfl rfl rfl rfl (put2 r8) rfl ⟨by first | rfl | (rw [hq2]; rfl), ?_⟩
  exact (b8.setCell (p := ⟨w.heap.size + 1 + 1, 0, none⟩) (by simp; omega) _).setCell (p := ⟨w.heap.size + 1 + 1, 1, none⟩) (by simp; omega) _
set_option maxHeartbeats 4000000 in
theorem ref2Dm_neg1 (n m : Nat) (w : World) (hn : blen n ≤ 128) (hm : blen m ≤ 128) (h0 : 0 < m) (hp : 0 < n) (hr : 0 < n % m) :
    Calls Tryz.prog 202 #[.agg #[.bool true, .string (enc n)], .agg #[.bool false, .string (enc m)]] w fun e w' => e = .returned (.tuple #[.agg #[.bool true, .string (enc (n / m + 1))], .string (enc (m - n % m)), .int .i64 0]) ∧ Below w.heap.size w w' := by
  have HV2 := Lib.hid (show (validB (enc m) && !(false && (enc m).toList.isEmpty)) = true by rw [(IsN.mk' hm).valid]; rfl)
  have HM := Lib.hid (IsN.mk' hm)
  have HN := Lib.hid (IsN.mk' hn)
  have nm := (notEmpty_enc h0).1
  have nm' := toList_enc_nil h0
  have HV1 := Lib.hid (show (validB (enc n) && !(true && (enc n).toList.isEmpty)) = true by rw [(IsN.mk' hn).valid, toList_enc_nil hp]; rfl)
  have hlt := Nat.mod_lt n h0
  have hq1 : n / m + 1 ≤ n := by
    rcases Nat.eq_zero_or_pos (n / m) with h | h
    · have := Nat.div_add_mod n m; rw [h] at this; omega
    · have := Nat.div_add_mod n m
      have : n / m ≤ m * (n / m) := Nat.le_mul_of_pos_left _ h0
      omega
  have nr := (notEmpty_enc hr).1
  have nr' := toList_enc_nil hr
  have hql : blen (n / m + 1) ≤ 128 := Nat.le_trans (blen_mono hq1) hn
  have HF := Lib.hid (And.intro (fitS_ok hql) (fitE_ok hql))
  have HQ := Lib.hid (IsN.mk' (Nat.le_trans (blen_mono (Nat.div_le_self n m)) hn))
  have HI := Lib.hid (IsN.mk' (show blen 1 ≤ 128 by decide))
  have HR := Lib.hid (IsN.mk' (Nat.le_trans (blen_mono (Nat.le_of_lt hlt)) hm))
  have HLE := Lib.hid (Nat.le_of_lt hlt)
  have hq2 := toList_enc_nil (Nat.succ_pos (n / m))
  clear hn hm hr hq1 hp hlt hql
  obtain ⟨w1, hw1, bx, by', br, hs1, b1⟩ := box3' w true (enc n) false (enc m)
  have k0 := bx.c0
  have k1 := bx.c1
  have k2 := by'.c0
  have k3 := by'.c1
  go_enter Tryz.func202, Tryz.ntmps202
  go_wp2_with fail
  clear k0 k1 k2 k3
  refine (ref2Valid_any true (enc n) _).mono ?_; rw [HV1.out]
  rintro e w2 ⟨rfl, b2⟩
  have x2 := bx.below b2 bx.lt
  have y2 := by'.below b2 by'.lt
  have r2 := br.below b2 br.lt
  replace b2 := bbl b1 b2
  clear bx by' br b1 hs1 hw1
  have k2 := y2.c0
  have k3 := y2.c1
  go_wp2_with fail
  clear k2 k3
  refine (ref2Valid_any false (enc m) _).mono ?_; rw [HV2.out]
  rintro e w3 ⟨rfl, b3⟩
  have x3 := x2.below b3 x2.lt
  have y3 := y2.below b3 y2.lt
  have r3 := r2.below b3 r2.lt
  replace b3 := bbl b2 b3
  clear x2 y2 r2 b2
  have c0 := x3.c0
  have c1 := x3.c1
  have c2 := y3.c0
  have c3 := y3.c1
  go_wp2_with fail
  clear c0 c1 c2 c3
  refine (refDivMod_any _ _ n m _ HN.out HM.out h0).mono ?_; rintro e w4 ⟨rfl, b4⟩
  have x4 := x3.below b4 x3.lt
  have y4 := y3.below b4 y3.lt
  have r4 := r3.below b4 r3.lt
  replace b4 := bbl b3 b4
  clear x3 y3 r3 b3
  have c0 := x4.c0
  have c1 := x4.c1
  have c2 := y4.c0
  have c3 := y4.c1
  go_wp2_with fail
  clear c0 c1 c2 c3
  refine (refOf_any 1 _ (by omega)).mono ?_; rintro e w5 ⟨rfl, b5⟩
  have x5 := x4.below b5 x4.lt
  have y5 := y4.below b5 y4.lt
  have r5 := r4.below b5 r4.lt
  replace b5 := bbl b4 b5
  clear x4 y4 r4 b4
  go_wp2_with fail
  refine (refAdd_any _ _ (n / m) 1 _ HQ.out HI.out).mono ?_; rw [HF.out.1, HF.out.2]; rintro e w6 ⟨rfl, b6⟩
  have x6 := x5.below b6 x5.lt
  have y6 := y5.below b6 y5.lt
  have r6 := r5.below b6 r5.lt
  replace b6 := bbl b5 b6
  clear x5 y5 r5 b5
  have c0 := x6.c0
  have c1 := x6.c1
  have c2 := y6.c0
  have c3 := y6.c1
  go_wp2_with fail
  clear c0 c1 c2 c3
  refine (refSub_any _ _ m (n % m) _ HM.out HR.out HLE.out).mono ?_; rintro e w7 ⟨rfl, b7⟩
  have x4 := x6.below b7 x6.lt
  have y4 := y6.below b7 y6.lt
  have r4 := r6.below b7 r6.lt
  have b4 := bbl b6 b7
  clear x6 y6 r6 b6 b7
  have c0 := x4.c0
  have c1 := x4.c1
  have c2 := y4.c0
  have c3 := y4.c1
  go_wp2_with fail
  refine (refMake_any _ _ _).mono ?_; rintro e w8 ⟨rfl, b8⟩
  have r8 := r4.below b8 r4.lt
  replace b8 := bbl b4 b8
  have f0 := r8.f0
  have f1 := r8.f1
  have g0 := r8.c0
  have g1 := r8.c1
  clear c0 c1 c2 c3 x4 y4 r4 b4
  go_wp2_with fail
  refine bodyPost_ctt rfl rfl rfl rfl (put2 r8) rfl ⟨by first | rfl | (rw [hq2]; rfl), ?_⟩
  exact (b8.setCell (p := ⟨w.heap.size + 1 + 1, 0, none⟩) (by simp; omega) _).setCell (p := ⟨w.heap.size + 1 + 1, 1, none⟩) (by simp; omega) _
theorem ref2DivMod_z (x : Int) (m : Nat) (w : World) (hx : ZOk x) (hm : blen m ≤ 128) (h0 : 0 < m) :
    Calls Tryz.prog 202 #[.agg #[.bool (zb x), .string (zs x)], .agg #[.bool false, .string (enc m)]] w (DmR x m w) := by
  have hs : zs x = enc x.natAbs := rfl
  rw [hs]
  by_cases hp : 0 ≤ x
  · have hb : zb x = false := decide_eq_false (by omega)
    rw [hb]
    refine (ref2Dm_pos x.natAbs m w hx hm h0).mono ?_
    rintro e w' ⟨rfl, hB⟩
    refine ⟨((x.natAbs / m : Nat) : Int), x.natAbs % m, ?_, dm_pos h0 hp, Nat.mod_lt _ h0, ?_, ?_, hB⟩
    · rw [show zb ((x.natAbs / m : Nat) : Int) = false from decide_eq_false (Int.not_lt.2 (Int.natCast_nonneg _))]; rfl
    · exact Nat.le_trans (blen_mono (Nat.div_le_self _ _)) hx
    · rw [Int.natAbs_natCast]; exact Nat.div_le_self _ _
  · have hb : zb x = true := decide_eq_true (by omega)
    rw [hb]
    have hp' : x < 0 := by omega
    have hn : 0 < x.natAbs := by omega
    rcases Nat.eq_zero_or_pos (x.natAbs % m) with hr | hr
    · refine (ref2Dm_neg0 x.natAbs m w hx hm h0 hn hr).mono ?_
      rintro e w' ⟨rfl, hB⟩
      have hq : 0 < x.natAbs / m := by
        rcases Nat.eq_zero_or_pos (x.natAbs / m) with h | h
        · have := Nat.div_add_mod x.natAbs m; rw [h, hr] at this; omega
        · exact h
      have ha : (-((x.natAbs / m : Nat) : Int)).natAbs = x.natAbs / m := by rw [Int.natAbs_neg, Int.natAbs_natCast]
      refine ⟨-((x.natAbs / m : Nat) : Int), 0, ?_, dm_neg0 h0 hp' hr, h0, ?_, ?_, hB⟩
      · rw [show zb (-((x.natAbs / m : Nat) : Int)) = true from decide_eq_true (Int.neg_neg_of_pos (Int.natCast_pos.2 hq)), show zs (-((x.natAbs / m : Nat) : Int)) = enc (x.natAbs / m) from congrArg enc ha]
      · exact Nat.le_trans (blen_mono (by rw [ha]; exact Nat.div_le_self _ _)) hx
      · rw [ha]; exact Nat.div_le_self _ _
    · refine (ref2Dm_neg1 x.natAbs m w hx hm h0 hn hr).mono ?_
      rintro e w' ⟨rfl, hB⟩
      have ha : (-((x.natAbs / m + 1 : Nat) : Int)).natAbs = x.natAbs / m + 1 := by rw [Int.natAbs_neg, Int.natAbs_natCast]
      obtain ⟨h1, h2⟩ := dm_neg1 h0 hp' hr
      refine ⟨-((x.natAbs / m + 1 : Nat) : Int), m - x.natAbs % m, ?_, h1, by omega, ?_, ?_, hB⟩
      · rw [show zb (-((x.natAbs / m + 1 : Nat) : Int)) = true from decide_eq_true (Int.neg_neg_of_pos (Int.natCast_pos.2 (Nat.succ_pos _))), show zs (-((x.natAbs / m + 1 : Nat) : Int)) = enc (x.natAbs / m + 1) from congrArg enc ha]
      · exact Nat.le_trans (blen_mono (by rw [ha]; exact h2)) hx
      · rw [ha]; exact h2
end Go.Proofs.YtcbamkgomnhdbaaGreatDoor
