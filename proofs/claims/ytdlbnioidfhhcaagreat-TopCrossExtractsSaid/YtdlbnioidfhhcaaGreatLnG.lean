import Derived.Test.YtdlbnioidfhhcaaGreatLnD
import Derived.Test.YtdlbnioidfhhcaaGreatPwI
import Derived.Deep.RegionHeld3
import Derived.Deep.QuietTactic
import Derived.BigQuiet
/- linear: images, the inner function. -/
namespace Go.Proofs.YtdlbnioidfhhcaaGreat
open Go.RowKit Num
set_option maxRecDepth 20000
set_option linter.unusedVariables false
/-- an integer in a variable -/
def IBL (W : World) (b : Nat) (g : Bool) (s : ByteArray) : Prop := W.heap[b]? = some (.cells #[.bool g, .string s] 50 (0, 0))
section
variable {w w' : World} {b K : Nat} {g : Bool} {s : ByteArray}
theorem IBL.lt (h : IBL w b g s) : b < w.heap.size := (Array.getElem?_eq_some_iff.1 h).1
theorem IBL.c0 (h : IBL w b g s) : w.cell? ⟨b, 0, none⟩ = some (.bool g) := by rw [Lib.cell_of_heap h]; rfl
theorem IBL.c1 (h : IBL w b g s) : w.cell? ⟨b, 1, none⟩ = some (.string s) := by rw [Lib.cell_of_heap h]; rfl
theorem IBL.f0 (h : IBL w b g s) : w.frozen? ⟨b, 0, none⟩ = false := Lib.frozen_of_heap h 0
theorem IBL.f1 (h : IBL w b g s) : w.frozen? ⟨b, 1, none⟩ = false := Lib.frozen_of_heap h 1
theorem IBL.new (w : World) (g : Bool) (s : ByteArray) : IBL (w.alloc (.cells #[.bool g, .string s] 50)) w.heap.size g s := heap_alloc_new w _
theorem IBL.below (h : IBL w b g s) (hb : Below K w w') (hK : b < K) : IBL w' b g s := (hb.block b hK).trans h
theorem IBL.alloc (h : IBL w b g s) (o : Obj) : IBL (w.alloc o) b g s := (Below.heap_alloc w o b h.lt).trans h
theorem IBL.drew (h : IBL w b g s) : IBL w.drew b g s := h
end
/-- two rows of our own, of numbers and of integers -/
structure RD (w0 w : World) (vB vE : Value) (k : Nat) (j : Nat) (LB : List ByteArray) (LE : List (Bool × ByteArray)) : Prop where
  b : w.ownsRow w0.heap.size 22 1 vB k (LB.map Value.string)
  e : w.ownsRow w0.heap.size 50 2 vE j (icl LE)
  bl : Below w0.heap.size w0 w
/-- a row of another type stays, whatever the other one grows to -/
theorem own_stay {W W' : World} {K e1 e2 s1 s2 n1 n2 : Nat} {v1 v2 : Value} {xs ys : List Value} (h : W.ownsRow K e1 s1 v1 n1 xs) (h2 : W.ownsRow K e2 s2 v2 n2 ys) (hne : e1 ≠ e2) (hg : W.grownBy W' v2.ownBlock) : W'.ownsRow K e1 s1 v1 n1 xs := by
  rcases h with ⟨h0, h | ⟨g, cap, cur, a1, a2, a3, a4⟩⟩
  · exact ⟨h0, .inl h⟩
  · have hl := (Array.getElem?_eq_some_iff.1 a3).1
    refine ⟨h0, .inr ⟨g, cap, cur, a1, a2, ?_, a4⟩⟩
    rw [hg.block g hl (fun e => by
      obtain ⟨_, cur', b3⟩ := own_ge h2 g e.symm
      rw [a3] at b3
      injection b3 with b3
      injection b3 with _ b3 _
      exact hne b3)]
    exact a3
theorem own_keepL {w w' : World} {K e size n : Nat} {v : Value} {xs : List Value} (hb : Below w.heap.size w w') (h : w.ownsRow K e size v n xs) : w'.ownsRow K e size v n xs := by
  rcases h with ⟨h0, h | ⟨g, cap, cur, h1, h2, h3, h4⟩⟩
  · exact ⟨h0, .inl h⟩
  · exact ⟨h0, .inr ⟨g, cap, cur, h1, h2, (hb.block g (Array.getElem?_eq_some_iff.1 h3).1).trans h3, h4⟩⟩
theorem RD.start (w0 : World) : RD w0 w0 (.slice none 0 0) (.slice none 0 0) 0 0 [] [] := ⟨⟨rfl, .inl ⟨rfl, rfl⟩⟩, ⟨rfl, .inl ⟨rfl, rfl⟩⟩, Below.refl _ _⟩
section
variable {w0 w w' : World} {vB vE v' : Value} {k j : Nat} {LB : List ByteArray} {LE : List (Bool × ByteArray)} {s t : ByteArray} {g : Bool} {p : Nat}
theorem RD.below (h : RD w0 w vB vE k j LB LE) (hb : Below w.heap.size w w') : RD w0 w' vB vE k j LB LE := ⟨own_keepL hb h.b, own_keepL hb h.e, h.bl.trans (hb.mono h.bl.size)⟩
theorem RD.alloc (h : RD w0 w vB vE k j LB LE) (o : Obj) : RD w0 (w.alloc o) vB vE k j LB LE := h.below ((Below.refl _ w).alloc (Nat.le_refl _) o)
theorem RD.drew (h : RD w0 w vB vE k j LB LE) : RD w0 w.drew vB vE k j LB LE := h.below ((Below.refl _ w).drew)
theorem RD.appB (h : RD w0 w vB vE k j LB LE) (hg : w.grownBy w' vB.ownBlock) (ho : w'.ownsRow w0.heap.size 22 1 v' (k + 1) (LB.map Value.string ++ [.string s])) : RD w0 w' v' vE (k + 1) j (LB ++ [s]) LE :=
  ⟨by rw [List.map_append]; exact ho, own_stay h.e h.b (by decide) hg, h.bl.grown hg h.bl.size (fun q e => (own_ge h.b q e).1)⟩
theorem RD.appE (h : RD w0 w vB vE k j LB LE) (hg : w.grownBy w' vE.ownBlock) (ho : w'.ownsRow w0.heap.size 50 2 v' (j + 1) (icl LE ++ [.bool g, .string t])) : RD w0 w' vB v' k (j + 1) LB (LE ++ [(g, t)]) :=
  ⟨own_stay h.b h.e (by decide) hg, by rw [icl_append]; exact ho, h.bl.grown hg h.bl.size (fun q e => (own_ge h.e q e).1)⟩
theorem SB.grE (h : SB w p s) (hr : RD w0 w vB vE k j LB LE) (hg : w.grownBy w' vE.ownBlock) : SB w' p s := by
  have hl := h.lt
  unfold SB at h ⊢
  rw [hg.block p hl (fun e => by
    obtain ⟨_, cur', b3⟩ := own_ge hr.e p e.symm
    rw [h] at b3
    injection b3 with b3
    injection b3 with _ b3 _
    exact absurd b3 (by decide))]
  exact h
theorem IBL.grB (h : IBL w p g s) (hr : RD w0 w vB vE k j LB LE) (hg : w.grownBy w' vB.ownBlock) : IBL w' p g s := by
  have hl := h.lt
  unfold IBL at h ⊢
  rw [hg.block p hl (fun e => by
    obtain ⟨_, cur', b3⟩ := own_ge hr.b p e.symm
    rw [h] at b3
    injection b3 with b3
    injection b3 with _ b3 _
    exact absurd b3 (by decide))]
  exact h
/-- the blocks of both rows lie below -/
def RLt (M : Nat) (vB vE : Value) : Prop := (∀ q, vB.ownBlock = some q → q < M) ∧ ∀ q, vE.ownBlock = some q → q < M
theorem RD.rlt (h : RD w0 w vB vE k j LB LE) : RLt w.heap.size vB vE :=
  ⟨fun q e => by obtain ⟨_, cur, b3⟩ := own_ge h.b q e; exact (Array.getElem?_eq_some_iff.1 b3).1, fun q e => by obtain ⟨_, cur, b3⟩ := own_ge h.e q e; exact (Array.getElem?_eq_some_iff.1 b3).1⟩
theorem RLt.farB {M b o : Nat} {v : Value} (h : RLt M vB vE) (hg : w.grownBy w' vB.ownBlock) (hM : M ≤ b) (hc : w.cell? ⟨b, o, none⟩ = some v) : w'.cell? ⟨b, o, none⟩ = some v := by
  have hl : b < w.heap.size := World.block_lt_of_cell? w _ hc
  rw [← hc]
  unfold World.cell?
  rw [show w'.heap[(⟨b, o, none⟩ : Addr).block]? = _ from hg.block b hl (fun e => by have := h.1 b e.symm; omega)]
theorem RLt.farE {M b o : Nat} {v : Value} (h : RLt M vB vE) (hg : w.grownBy w' vE.ownBlock) (hM : M ≤ b) (hc : w.cell? ⟨b, o, none⟩ = some v) : w'.cell? ⟨b, o, none⟩ = some v := by
  have hl : b < w.heap.size := World.block_lt_of_cell? w _ hc
  rw [← hc]
  unfold World.cell?
  rw [show w'.heap[(⟨b, o, none⟩ : Addr).block]? = _ from hg.block b hl (fun e => by have := h.2 b e.symm; omega)]
end
theorem IBL.put {w : World} {b : Nat} {g : Bool} {s : ByteArray} (h : IBL w b g s) (g' : Bool) (s' : ByteArray) : IBL ((w.setCell ⟨b, 0, none⟩ (.bool g')).setCell ⟨b, 1, none⟩ (.string s')) b g' s' := by
  unfold IBL at h ⊢
  simp only [World.setCell, Array.getElem?_modify, if_true, h, Option.map_some]
  simp
theorem TmB.set {w : World} {b c j : Nat} {s e : ByteArray} {i : Int} {g : Bool} (h : TmB w b s i g e) (hne : b ≠ c) (v : Value) : TmB (w.setCell ⟨c, j, none⟩ v) b s i g e := (Below.heap_setCell w ⟨c, j, none⟩ v b hne).trans h
/-- the product of a coefficient and an integer -/
theorem imulW {c x : Bool × ByteArray} (hc : ivB c = true) (hx : ivB x = true) (hz : ZOk (zi c * zi x)) (w : World) : Calls Tryz.prog 81 #[.agg #[.bool c.1, .string c.2], .agg #[.bool x.1, .string x.2]] w fun e w' => e = .returned (.tuple #[.agg #[.bool (zm c x).1, .string (zm c x).2], .int .i64 0]) ∧ Below w.heap.size w w' := by
  obtain ⟨h1, h2, h3, _⟩ := zi_iv hc
  obtain ⟨k1, k2, k3, _⟩ := zi_iv hx
  have h := imul_z (zi c) (zi x) w h3 k3 hz
  rw [← h1, ← h2, ← k1, ← k2] at h
  exact h
theorem keep7 {w w1 w2 : World} {q : Nat} {a1 a2 a3 a4 a5 a6 : Addr} {v1 v2 v3 v4 v5 v6 : Value} {s E : ByteArray} {i : Int} {g : Bool}
    (h : w1.cell? a1 = some v1 ∧ w1.cell? a2 = some v2 ∧ w1.cell? a3 = some v3 ∧ w1.cell? a4 = some v4 ∧ w1.cell? a5 = some v5 ∧ w1.cell? a6 = some v6 ∧ TmB w1 q s i g E ∧ Below q w w1) (hq : q ≤ w1.heap.size) (b : Below w1.heap.size w1 w2) :
    w2.cell? a1 = some v1 ∧ w2.cell? a2 = some v2 ∧ w2.cell? a3 = some v3 ∧ w2.cell? a4 = some v4 ∧ w2.cell? a5 = some v5 ∧ w2.cell? a6 = some v6 ∧ TmB w2 q s i g E ∧ Below q w w2 :=
  ⟨cells_keepL b (Nat.le_refl _) _ _ h.1, cells_keepL b (Nat.le_refl _) _ _ h.2.1, cells_keepL b (Nat.le_refl _) _ _ h.2.2.1, cells_keepL b (Nat.le_refl _) _ _ h.2.2.2.1, cells_keepL b (Nat.le_refl _) _ _ h.2.2.2.2.1, cells_keepL b (Nat.le_refl _) _ _ h.2.2.2.2.2.1, h.2.2.2.2.2.2.1.below b h.2.2.2.2.2.2.1.lt, h.2.2.2.2.2.2.2.trans (b.mono hq)⟩
theorem keep7' {w w1 w2 : World} {q : Nat} {a1 a2 a3 a4 a5 a6 : Addr} {v1 v2 v3 v4 v5 v6 : Value} {s E : ByteArray} {i : Int} {g : Bool}
    (h : w1.cell? a1 = some v1 ∧ w1.cell? a2 = some v2 ∧ w1.cell? a3 = some v3 ∧ w1.cell? a4 = some v4 ∧ w1.cell? a5 = some v5 ∧ w1.cell? a6 = some v6 ∧ TmB w1 q s i g E ∧ Below q w w1) (b : Below w1.heap.size w1 w2) :
    w2.cell? a1 = some v1 ∧ w2.cell? a2 = some v2 ∧ w2.cell? a3 = some v3 ∧ w2.cell? a4 = some v4 ∧ w2.cell? a5 = some v5 ∧ w2.cell? a6 = some v6 ∧ TmB w2 q s i g E ∧ Below q w w2 := keep7 h (Nat.le_of_lt h.2.2.2.2.2.2.1.lt) b
/-- the integer of a term's variable -/
def witT (l : List (Bool × ByteArray)) (t : TmR) : Bool × ByteArray := l.getD t.2.1.toNat (false, ⟨#[]⟩)
def lbT (L : List TmR) : List ByteArray := L.map (·.1)
def leT (l : List (Bool × ByteArray)) (L : List TmR) : List (Bool × ByteArray) := L.map fun t => zm t.2.2 (witT l t)
/-- a term whose variable is there and whose product is short -/
def TmOk (l : List (Bool × ByteArray)) (t : TmR) : Prop := ∃ j : Nat, t.2.1 = (j : Int) ∧ j < l.length ∧ ivB t.2.2 = true ∧ ivB (witT l t) = true ∧ ZOk (zi t.2.2 * zi (witT l t))
theorem lbT_take {L : List TmR} {k : Nat} (h : k < L.length) : lbT (L.take (k + 1)) = lbT (L.take k) ++ [L[k].1] := by unfold lbT; rw [List.take_succ_eq_append_getElem h, List.map_append]; rfl
theorem leT_take {l : List (Bool × ByteArray)} {L : List TmR} {k : Nat} (h : k < L.length) : leT l (L.take (k + 1)) = leT l (L.take k) ++ [zm L[k].2.2 (witT l L[k])] := by unfold leT; rw [List.take_succ_eq_append_getElem h, List.map_append]; rfl
theorem oneL {W : World} {g : Nat} {v : Value} (h : W.cell? ⟨g, 0, none⟩ = some v) : ∀ j u, [v][j]? = some u → W.cell? ((⟨g, 0, none⟩ : Addr).add j) = some u := by
  intro j u hj
  rw [addr_add]
  match j, hj with
  | 0, hj => simp at hj; subst hj; exact h
theorem keepS3 {w1 w2 : World} {a1 a2 a3 : Addr} {v1 v2 v3 : Value} (h : w1.cell? a1 = some v1 ∧ w1.cell? a2 = some v2 ∧ w1.cell? a3 = some v3) (b : Below w1.heap.size w1 w2) : w2.cell? a1 = some v1 ∧ w2.cell? a2 = some v2 ∧ w2.cell? a3 = some v3 :=
  ⟨cells_keepL b (Nat.le_refl _) _ _ h.1, cells_keepL b (Nat.le_refl _) _ _ h.2.1, cells_keepL b (Nat.le_refl _) _ _ h.2.2⟩
theorem keepSB {w w' : World} {M pp : Nat} {vB vE v1 v2 v3 : Value} (h : RLt M vB vE) (hg : w.grownBy w' vB.ownBlock) (hc : w.cell? ⟨M, 0, none⟩ = some v1 ∧ w.cell? ⟨pp, 0, none⟩ = some v2 ∧ w.cell? ⟨pp, 1, none⟩ = some v3) (hpp : M < pp) : w'.cell? ⟨M, 0, none⟩ = some v1 ∧ w'.cell? ⟨pp, 0, none⟩ = some v2 ∧ w'.cell? ⟨pp, 1, none⟩ = some v3 :=
  ⟨h.farB hg (Nat.le_refl _) hc.1, h.farB hg (Nat.le_of_lt hpp) hc.2.1, h.farB hg (Nat.le_of_lt hpp) hc.2.2⟩
theorem keepSE {w w' : World} {M pp : Nat} {vB vE v1 v2 v3 : Value} (h : RLt M vB vE) (hg : w.grownBy w' vE.ownBlock) (hc : w.cell? ⟨M, 0, none⟩ = some v1 ∧ w.cell? ⟨pp, 0, none⟩ = some v2 ∧ w.cell? ⟨pp, 1, none⟩ = some v3) (hpp : M < pp) : w'.cell? ⟨M, 0, none⟩ = some v1 ∧ w'.cell? ⟨pp, 0, none⟩ = some v2 ∧ w'.cell? ⟨pp, 1, none⟩ = some v3 :=
  ⟨h.farE hg (Nat.le_refl _) hc.1, h.farE hg (Nat.le_of_lt hpp) hc.2.1, h.farE hg (Nat.le_of_lt hpp) hc.2.2⟩
/-- what the inner function returns -/
def CLP (l : List (Bool × ByteArray)) (L : List TmR) (nt : Nat) (w : World) : Ending → World → Prop := fun e w' => ∃ ab c1 ae c2, e = .returned (.tuple #[.slice ab nt c1, .slice ae nt c2, .int .i64 0]) ∧ NS w' ab (lbT L) ∧ IS w' ae (leT l L) ∧ Below w.heap.size w w'
set_option maxHeartbeats 16000000 in
theorem collect_any (gi : Int) (T : ByteArray) (ta : Option Addr) (nt tc : Nat) (L : List TmR) (p : Nat) (bo : Option Addr) (n c : Nat) (l : List (Bool × ByteArray)) (w : World) (hT : TSl w ta L) (hnt : L.length = nt) (h64 : nt ≤ 64) (hl : IS w bo l) (hn : l.length = n) (hn1 : n ≤ 1000)
    (hp : w.cell? ⟨p, 0, none⟩ = some (.slice bo n c)) (hok : ∀ t ∈ L, TmOk l t) :
    Calls Tryz.prog 80 #[.agg #[.int .i64 gi, .string T, .slice ta nt tc], .pointer (some ⟨p, 0, none⟩)] w (CLP l L nt w) := by
  unfold CLP
  have hN := QB.new w gi T (.slice ta nt tc)
  have hb := (Below.refl _ w).alloc (Nat.le_refl _) (.cells #[.int .i64 gi, .string T, .slice ta nt tc] 68)
  have hT0 := hT.keep (cells_keepL hb (Nat.le_refl _))
  have hl0 := hl.keepL (cells_keepL hb (Nat.le_refl _))
  have hp0 := cells_keepL hb (Nat.le_refl _) _ _ hp
  have n2 := hN.c2
  have HT := Lib.hid hT0
  have HL := Lib.hid hl0
  have HOK := Lib.hid hok
  have HNT := Lib.hid hnt
  have HN := Lib.hid hn
  clear hT hnt hl hn hp hok hT0 hl0
  obtain ⟨i0, hi, hz0, hz1, hz2⟩ := info_parts info_nat
  obtain ⟨i1, hy, hy0, hy1, hy2⟩ := info_parts info_int2
  have HI := Lib.hid (And.intro (And.intro hi (And.intro hz0 (And.intro hz1 hz2))) (And.intro hy (And.intro hy0 (And.intro hy1 hy2))))
  clear hi hz0 hz1 hz2 hy hy0 hy1 hy2
  go_enter Tryz.func80, Tryz.ntmps80
  go_wp2_with fail
  generalize hw0 : World.alloc _ _ = w0 at hb hp0 n2 HT HL hN ⊢
  clear hw0
  have hR := RD.start w0
  go_wp2_with fail
  go_loopw [6, 7, 15] (fun v6 v7 v15 wr => ∃ k : Nat, k ≤ nt ∧ v15 = .int .i64 (k : Int) ∧ RD w0 wr v6 v7 k k (lbT (L.take k)) (leT l (L.take k))) (fun _ _ v15 _ => nt - (intOf v15).toNat)
  case atStart => exact ⟨0, by omega, rfl, hR⟩
  case round =>
    clear hR
    obtain ⟨k, hk, rfl, hR⟩ := hrel
    have hB := hR.bl
    have d0 := cells_keepL hB (Nat.le_refl _) _ _ hp0
    by_cases hlt : k < nt
    · have hkL : k < L.length := by rw [HNT.out]; exact hlt
      obtain ⟨b, off, rfl, e0, e1, e2, e3⟩ := (HT.out.keep (cells_keepL hB (Nat.le_refl _))) k hkL
      obtain ⟨j, hj1, hj2, hc1, hc2, hz⟩ := HOK.out _ (List.getElem_mem hkL)
      have hlb := lbT_take hkL
      have hle := leT_take (l := l) hkL
      obtain ⟨b2, off2, rfl, f0, f1⟩ := (HL.out.keepL (cells_keepL hB (Nat.le_refl _))).get (show j < l.length from hj2)
      have hwt : witT l L[k] = l.getD j (false, ⟨#[]⟩) := by unfold witT; rw [hj1]; rfl
      rw [← hwt] at f0 f1
      generalize witT l L[k] = x at hc2 hz hle f0 f1 hwt
      clear hwt
      generalize L[k] = y at e0 e1 e2 e3 hj1 hc1 hz hlb hle
      obtain ⟨s, u, g, E⟩ := y
      simp only at e0 e1 e2 e3 hj1 hc1 hz hlb hle
      subst hj1
      have HMU := Lib.hid (imulW hc1 hc2 hz)
      obtain ⟨xg, xE⟩ := x
      obtain ⟨⟨rg, rE⟩, hr⟩ : ∃ r, zm (g, E) (xg, xE) = r := ⟨_, rfl⟩
      rw [hr] at HMU hle
      have HLB := Lib.hid hlb
      have HLE := Lib.hid hle
      simp only at f0 f1 HMU
      have hj3 : j < n := by have := HN.out; omega
      have hbN := (Below.refl _ wr).alloc (Nat.le_refl _) (.cells #[.string s, .int .i64 (j : Int), .bool g, .string E] 94)
      have hTm := TmB.new wr s (j : Int) g E
      have m0 := hTm.c0
      have m1 := hTm.c1
      have m2 := hTm.c2
      have m3 := hTm.c3
      have d1 := cells_keepL hbN (Nat.le_refl _) _ _ d0
      have f2 := cells_keepL hbN (Nat.le_refl _) _ _ f0
      have f3 := cells_keepL hbN (Nat.le_refl _) _ _ f1
      have hz1 : (wr.alloc (.cells #[.string s, .int .i64 (j : Int), .bool g, .string E] 94)).heap.size = wr.heap.size + 1 := by simp
      clear hc1 hc2 hz hlb hle hr hkL hj2 f0 f1
      go_wp2_with fail
      clear e0 e1 e2 e3
      generalize hw1 : World.alloc wr _ = w1 at hbN hTm m0 m1 m2 m3 d1 f2 f3 hz1 ⊢
      have HZ1 := Lib.hid hz1
      clear hw1 hz1
      go_cut [10, 11] from 19 to 42 (fun v10 v11 wc => ∃ pp : Nat, v10 = .pointer (some ⟨pp, 0, none⟩) ∧ wr.heap.size < pp ∧ v11 = .int .i64 0 ∧ IBL wc pp rg rE ∧ TmB wc wr.heap.size s (j : Int) g E ∧ Below wr.heap.size wr wc)
      case first =>
        have HMK : Hid (∀ w', Below w1.heap.size w1 w' → w'.cell? ⟨wr.heap.size, 1, none⟩ = some (.int .i64 (j : Int)) ∧ w'.cell? ⟨wr.heap.size, 2, none⟩ = some (.bool g) ∧ w'.cell? ⟨wr.heap.size, 3, none⟩ = some (.string E) ∧ w'.cell? ⟨p, 0, none⟩ = some (.slice (some ⟨b2, off2, none⟩) n c) ∧ w'.cell? ⟨b2, off2 + j * 2, none⟩ = some (.bool xg) ∧ w'.cell? ⟨b2, off2 + j * 2 + 1, none⟩ = some (.string xE) ∧ TmB w' wr.heap.size s (j : Int) g E ∧ Below wr.heap.size wr w') := fun w' hw => keep7 ⟨m1, m2, m3, d1, f2, f3, hTm, hbN⟩ (by have := HZ1.out; omega) hw
        go_region_held3 (fun w' => w'.cell? ⟨wr.heap.size, 1, none⟩ = some (.int .i64 (j : Int)) ∧ w'.cell? ⟨wr.heap.size, 2, none⟩ = some (.bool g) ∧ w'.cell? ⟨wr.heap.size, 3, none⟩ = some (.string E) ∧ w'.cell? ⟨p, 0, none⟩ = some (.slice (some ⟨b2, off2, none⟩) n c) ∧ w'.cell? ⟨b2, off2 + j * 2, none⟩ = some (.bool xg) ∧ w'.cell? ⟨b2, off2 + j * 2 + 1, none⟩ = some (.string xE) ∧ TmB w' wr.heap.size s (j : Int) g E ∧ Below wr.heap.size wr w')
          (first | exact HMK.out _ (Below.refl _ _).drew | exact HMK.out _ ((Below.refl _ w1).alloc (Nat.le_refl _) _).drew | exact HMK.out _ ((Below.refl _ w1).alloc (Nat.le_refl _) _) | exact HMK.out _ hbn | exact HMK.out _ (hbn.alloc hbn.size _) | exact HMK.out _ (hbn.setCell (by simp) _) | exact HMK.out _ ((hbn.setCell (by simp) _).setCell (by simp) _) | assumption)
          ((go_at_call 81; (with_reducible refine (HMU.out _).mono ?_); rintro e wn ⟨rfl, bn⟩; (first | (have hbn : Below w1.heap.size w1 wn := (Below.refl _ w1).drew.trans (bn.mono (Nat.le_refl _)); have hrn := trivial) | (have hbn : Below w1.heap.size w1 wn := ((Below.refl _ w1).alloc (Nat.le_refl _) (.cells #[.bool false, .string ⟨#[]⟩] 50)).drew.trans (bn.mono (by simp)); have hrn := (IBL.new w1 false ⟨#[]⟩).drew.below bn (IBL.new w1 false ⟨#[]⟩).lt; have x0 := hrn.c0; have x1 := hrn.c1; have x2 := hrn.f0; have x3 := hrn.f1))))
        · have hS := HMK.out _ (hbn.alloc hbn.size (.cells #[.bool rg, .string rE] 50))
          go_wp2_with fail
          go_meet
          exact ⟨_, rfl, by have := HZ1.out; have := hbn.size; omega, rfl, IBL.new _ _ _, hS.2.2.2.2.2.2.1, hS.2.2.2.2.2.2.2⟩
        · have hS := HMK.out _ ((hbn.setCell (p := ⟨w1.heap.size, 0, none⟩) (Nat.le_refl _) (.bool rg)).setCell (p := ⟨w1.heap.size, 1, none⟩) (Nat.le_refl _) (.string rE))
          go_wp2_with fail
          go_meet
          exact ⟨_, rfl, by have := HZ1.out; omega, rfl, hrn.put _ _, hS.2.2.2.2.2.2.1, hS.2.2.2.2.2.2.2⟩
      case rest =>
        clear hbN hTm m0 m1 m2 m3 d1 f2 f3 HZ1
        obtain ⟨pp, rfl, hpp, rfl, hI, hTm, hBc⟩ := hcut
        rename World => wc
        have m0 := hTm.c0
        have k0 := hI.c0
        have k1 := hI.c1
        have hRD := hR.below hBc
        have hF := hR.rlt
        obtain ⟨⟨hi, hz0, hz1, hz2⟩, ⟨hy, hy0, hy1, hy2⟩⟩ := HI.out
        clear hR hBc hB d0
        generalize wr.heap.size = q at hpp hTm hF m0 ⊢
        go_wp2_with fail
        have hSS : wc.drew.cell? ⟨q, 0, none⟩ = some (.string s) ∧ wc.drew.cell? ⟨pp, 0, none⟩ = some (.bool rg) ∧ wc.drew.cell? ⟨pp, 1, none⟩ = some (.string rE) := ⟨m0, k0, k1⟩
        clear hi hz0 hz1 hz2 hy hy0 hy1 hy2
        obtain ⟨⟨hi, hz0, hz1, hz2⟩, ⟨hy, hy0, hy1, hy2⟩⟩ := HI.out
-- {{T9
        refine wp_region_held_drew (S := (fun w' => w'.cell? ⟨q, 0, none⟩ = some (.string s) ∧ w'.cell? ⟨pp, 0, none⟩ = some (.bool rg) ∧ w'.cell? ⟨pp, 1, none⟩ = some (.string rE))) (by kernel_rfl) hSS (fun hS0 => ?_)
        refine wpAnyH_take (i := 0) (oi := { dst := some 33, op := _, type := _, pos := _, after := _, guard := _ }) (v := u6) rfl (by kernel_rfl) (by kernel_rfl) (by kernel_rfl) (fun _ _ _ h => h) (Or.inl ⟨by rfl, fun w' hSw => (by (try dsimp only at hSw); go_simp)⟩) (by assumption) ?_
        try simp only [Act.put, List.setIfInBounds_toArray, List.set_cons_zero, List.set_cons_succ]
        refine wpAnyH_take (i := 1) (oi := { dst := some 34, op := _, type := _, pos := _, after := _, guard := _ }) (v := .pointer (some (⟨q, 0, none⟩ : Addr))) rfl (by kernel_rfl) (by kernel_rfl) (by kernel_rfl) (fun _ _ _ h => h) (Or.inl ⟨by rfl, fun w' hSw => (by (try dsimp only at hSw); go_simp)⟩) (by assumption) ?_
        try simp only [Act.put, List.setIfInBounds_toArray, List.set_cons_zero, List.set_cons_succ]
        refine wpAnyH_take (i := 2) (oi := { dst := some 35, op := _, type := _, pos := _, after := _, guard := _ }) (v := .string s) rfl (by kernel_rfl) (by kernel_rfl) (by kernel_rfl) (fun _ _ _ h => h) (Or.inl ⟨by rfl, fun w' hSw => (by (try dsimp only at hSw); obtain ⟨g0, g1, g2⟩ := hSw; go_simp)⟩) (by assumption) ?_
        try simp only [Act.put, List.setIfInBounds_toArray, List.set_cons_zero, List.set_cons_succ]
        refine wpAnyH_take (i := 5) (oi := { dst := some 38, op := _, type := _, pos := _, after := _, guard := _ }) (v := u7) rfl (by kernel_rfl) (by kernel_rfl) (by kernel_rfl) (fun _ _ _ h => h) (Or.inl ⟨by rfl, fun w' hSw => (by (try dsimp only at hSw); go_simp)⟩) (by assumption) ?_
        try simp only [Act.put, List.setIfInBounds_toArray, List.set_cons_zero, List.set_cons_succ]
        refine wpAnyH_take (i := 6) (oi := { dst := some 39, op := _, type := _, pos := _, after := _, guard := _ }) (v := .agg #[.bool rg, .string rE]) rfl (by kernel_rfl) (by kernel_rfl) (by kernel_rfl) (fun _ _ _ h => h) (Or.inl ⟨by rfl, fun w' hSw => (by (try dsimp only at hSw); obtain ⟨g0, g1, g2⟩ := hSw; go_simp)⟩) (by assumption) ?_
        try simp only [Act.put, List.setIfInBounds_toArray, List.set_cons_zero, List.set_cons_succ]
        have hR0 := hRD.drew
        generalize wc.drew = W0 at hS0 hR0 ⊢
        refine wpAnyH_ready (rs := [3, 7]) (by kernel_rfl) (by simp) ?_
        refine AllReadyH.cons rfl (fun K hK => ?_) (AllReadyH.cons rfl (fun K hK => ?_) AllReadyH.nil)
        · rw [if_pos (by rfl)]
          go_simp
          have hb1 := (Below.refl _ W0).alloc (Nat.le_refl _) (.cells #[.string s] 22)
          have hR1 := hR0.alloc (.cells #[.string s] 22)
          have hA1 := SB.new W0 s
          have hS1 := keepS3 hS0 hb1
          refine hK.out _ _ hS1 (fun hT => ?_)
          clear hK hT hb1
          try simp only [Act.put, List.setIfInBounds_toArray, List.set_cons_zero, List.set_cons_succ]
          generalize W0.heap.size = pA1 at hR1 hS1 hA1 ⊢
          generalize hw : World.alloc W0 _ = W1 at hR1 hS1 hA1 ⊢
          clear hw
          refine wpAnyH_ready (rs := [4, 7]) (by kernel_rfl) (by simp) ?_
          refine AllReadyH.cons rfl (fun K hK => ?_) (AllReadyH.cons rfl (fun K hK => ?_) AllReadyH.nil)
          · rw [if_pos (by rfl)]
            refine wp_append_own _ (.tmp 33) (.tmp 36) 31 (by rfl) w0.heap.size 22 i0 (.string ⟨#[]⟩) 1 16 Tryz.underlying31 hi hz0 hz1 hz2 rfl (by decide) u6 k _ (by rfl) hR1.b ⟨pA1, 0, none⟩ 1 1 [.string s] (by rfl) rfl (oneL hA1.c) (by simp [Value.oneCell']) (by unfold maxLen; omega) (by omega) hR1.bl.size ?_
            intro vB2 W2 ho hg _
            have hR2 := hR1.appB hg ho
            have hS2 := keepSB hF hg hS1 hpp
            refine hK.out _ _ hS2 (fun hT => ?_)
            clear hK hT ho hg
            try simp only [Act.put, List.setIfInBounds_toArray]
            refine wpAnyH_ready (rs := [7]) (by kernel_rfl) (by simp) ?_
            refine AllReadyH.cons rfl (fun K hK => ?_) AllReadyH.nil
            rw [if_pos (by rfl)]
            go_simp
            have hb3 := (Below.refl _ W2).alloc (Nat.le_refl _) (.cells #[.bool rg, .string rE] 50)
            have hR3 := hR2.alloc (.cells #[.bool rg, .string rE] 50)
            have hE3 := IBL.new W2 rg rE
            have hS3 := keepS3 hS2 hb3
            refine hK.out _ _ hS3 (fun hT => ?_)
            clear hK hT hb3
            try simp only [Act.put, List.setIfInBounds_toArray, List.set_cons_zero, List.set_cons_succ]
            generalize W2.heap.size = pE3 at hR3 hS3 hE3 ⊢
            generalize hw : World.alloc W2 _ = W3 at hR3 hS3 hE3 ⊢
            clear hw
            refine wpAnyH_ready (rs := [8]) (by kernel_rfl) (by simp) ?_
            refine AllReadyH.cons rfl (fun K hK => ?_) AllReadyH.nil
            rw [if_pos (by rfl)]
            refine wp_append_own _ (.tmp 38) (.tmp 40) 32 (by rfl) w0.heap.size 50 i1 (.agg #[.bool false, .string ⟨#[]⟩]) 2 24 Tryz.underlying32 hy hy0 hy1 hy2 rfl (by decide) u7 k _ (by rfl) hR3.e ⟨pE3, 0, none⟩ 1 1 [.bool rg, .string rE] (by rfl) rfl (two_cellV hE3.c0 hE3.c1) (by simp [Value.oneCell']) (by unfold maxLen; omega) (by omega) hR3.bl.size ?_
            intro vE4 W4 ho hg _
            have hR4 := hR3.appE hg ho
            have hS4 := keepSE hF hg hS3 hpp
            refine hK.out _ _ hS4 (fun hT => ?_)
            clear hK hT ho hg
            try simp only [Act.put, List.setIfInBounds_toArray]
            refine wpAnyH_take (i := 9) (oi := { dst := some 6, op := _, type := _, pos := _, after := _, guard := _ }) (v := vB2) rfl (by kernel_rfl) (by kernel_rfl) (by kernel_rfl) (fun _ _ _ h => h) (Or.inl ⟨by rfl, fun w' hSw => (by (try dsimp only at hSw); go_simp)⟩) (by assumption) ?_
            try simp only [Act.put]
            refine wpAnyH_take (i := 10) (oi := { dst := some 7, op := _, type := _, pos := _, after := _, guard := _ }) (v := vE4) rfl (by kernel_rfl) (by kernel_rfl) (by kernel_rfl) (fun _ _ _ h => h) (Or.inl ⟨by rfl, fun w' hSw => (by (try dsimp only at hSw); go_simp)⟩) (by assumption) ?_
            try simp only [Act.put]
            refine wpAnyH_done (by kernel_rfl) ?_ _
            rw [← HLB.out, ← HLE.out] at hR4
            go_wp2_with fail
            first | exact ⟨⟨k + 1, by omega, by go_num, hR4⟩, by simp [intOf]; omega⟩ | exact ⟨⟨_, _, _, _, _, _, _, _, _, _, _, _, _, _, _, _, _, _, _, _, _, _, _, _, _, _, _, _, _, _, _, _, _, _, _, _, ⟨k + 1, by omega, by go_num, hR4⟩, rfl⟩, by simp [intOf]; omega⟩
          · rw [if_pos (by rfl)]
            go_simp
            have hb2 := (Below.refl _ W1).alloc (Nat.le_refl _) (.cells #[.bool rg, .string rE] 50)
            have hR2 := hR1.alloc (.cells #[.bool rg, .string rE] 50)
            have hE2 := IBL.new W1 rg rE
            have hA2 := hA1.alloc (.cells #[.bool rg, .string rE] 50)
            have hS2 := keepS3 hS1 hb2
            refine hK.out _ _ hS2 (fun hT => ?_)
            clear hK hT hb2
            try simp only [Act.put, List.setIfInBounds_toArray, List.set_cons_zero, List.set_cons_succ]
            generalize W1.heap.size = pE2 at hR2 hS2 hA2 hE2 ⊢
            generalize hw : World.alloc W1 _ = W2 at hR2 hS2 hA2 hE2 ⊢
            clear hw
            refine wpAnyH_ready (rs := [4]) (by kernel_rfl) (by simp) ?_
            refine AllReadyH.cons rfl (fun K hK => ?_) AllReadyH.nil
            rw [if_pos (by rfl)]
            refine wp_append_own _ (.tmp 33) (.tmp 36) 31 (by rfl) w0.heap.size 22 i0 (.string ⟨#[]⟩) 1 16 Tryz.underlying31 hi hz0 hz1 hz2 rfl (by decide) u6 k _ (by rfl) hR2.b ⟨pA1, 0, none⟩ 1 1 [.string s] (by rfl) rfl (oneL hA2.c) (by simp [Value.oneCell']) (by unfold maxLen; omega) (by omega) hR2.bl.size ?_
            intro vB3 W3 ho hg _
            have hR3 := hR2.appB hg ho
            have hE3 := hE2.grB hR2 hg
            have hS3 := keepSB hF hg hS2 hpp
            refine hK.out _ _ hS3 (fun hT => ?_)
            clear hK hT ho hg
            try simp only [Act.put, List.setIfInBounds_toArray]
            refine wpAnyH_ready (rs := [8]) (by kernel_rfl) (by simp) ?_
            refine AllReadyH.cons rfl (fun K hK => ?_) AllReadyH.nil
            rw [if_pos (by rfl)]
            refine wp_append_own _ (.tmp 38) (.tmp 40) 32 (by rfl) w0.heap.size 50 i1 (.agg #[.bool false, .string ⟨#[]⟩]) 2 24 Tryz.underlying32 hy hy0 hy1 hy2 rfl (by decide) u7 k _ (by rfl) hR3.e ⟨pE2, 0, none⟩ 1 1 [.bool rg, .string rE] (by rfl) rfl (two_cellV hE3.c0 hE3.c1) (by simp [Value.oneCell']) (by unfold maxLen; omega) (by omega) hR3.bl.size ?_
            intro vE4 W4 ho hg _
            have hR4 := hR3.appE hg ho
            have hS4 := keepSE hF hg hS3 hpp
            refine hK.out _ _ hS4 (fun hT => ?_)
            clear hK hT ho hg
            try simp only [Act.put]
            refine wpAnyH_take (i := 9) (oi := { dst := some 6, op := _, type := _, pos := _, after := _, guard := _ }) (v := vB3) rfl (by kernel_rfl) (by kernel_rfl) (by kernel_rfl) (fun _ _ _ h => h) (Or.inl ⟨by rfl, fun w' hSw => (by (try dsimp only at hSw); go_simp)⟩) (by assumption) ?_
            try simp only [Act.put]
            refine wpAnyH_take (i := 10) (oi := { dst := some 7, op := _, type := _, pos := _, after := _, guard := _ }) (v := vE4) rfl (by kernel_rfl) (by kernel_rfl) (by kernel_rfl) (fun _ _ _ h => h) (Or.inl ⟨by rfl, fun w' hSw => (by (try dsimp only at hSw); go_simp)⟩) (by assumption) ?_
            try simp only [Act.put]
            refine wpAnyH_done (by kernel_rfl) ?_ _
            rw [← HLB.out, ← HLE.out] at hR4
            go_wp2_with fail
            first | exact ⟨⟨k + 1, by omega, by go_num, hR4⟩, by simp [intOf]; omega⟩ | exact ⟨⟨_, _, _, _, _, _, _, _, _, _, _, _, _, _, _, _, _, _, _, _, _, _, _, _, _, _, _, _, _, _, _, _, _, _, _, _, ⟨k + 1, by omega, by go_num, hR4⟩, rfl⟩, by simp [intOf]; omega⟩
        · rw [if_pos (by rfl)]
          go_simp
          have hb1 := (Below.refl _ W0).alloc (Nat.le_refl _) (.cells #[.bool rg, .string rE] 50)
          have hR1 := hR0.alloc (.cells #[.bool rg, .string rE] 50)
          have hE1 := IBL.new W0 rg rE
          have hS1 := keepS3 hS0 hb1
          refine hK.out _ _ hS1 (fun hT => ?_)
          clear hK hT hb1
          try simp only [Act.put, List.setIfInBounds_toArray, List.set_cons_zero, List.set_cons_succ]
          generalize W0.heap.size = pE1 at hR1 hS1 hE1 ⊢
          generalize hw : World.alloc W0 _ = W1 at hR1 hS1 hE1 ⊢
          clear hw
          refine wpAnyH_ready (rs := [3]) (by kernel_rfl) (by simp) ?_
          refine AllReadyH.cons rfl (fun K hK => ?_) AllReadyH.nil
          rw [if_pos (by rfl)]
          go_simp
          have hb2 := (Below.refl _ W1).alloc (Nat.le_refl _) (.cells #[.string s] 22)
          have hR2 := hR1.alloc (.cells #[.string s] 22)
          have hA2 := SB.new W1 s
          have hE2 := hE1.alloc (.cells #[.string s] 22)
          have hS2 := keepS3 hS1 hb2
          refine hK.out _ _ hS2 (fun hT => ?_)
          clear hK hT hb2
          try simp only [Act.put, List.setIfInBounds_toArray, List.set_cons_zero, List.set_cons_succ]
          generalize W1.heap.size = pA2 at hR2 hS2 hA2 hE2 ⊢
          generalize hw : World.alloc W1 _ = W2 at hR2 hS2 hA2 hE2 ⊢
          clear hw
          refine wpAnyH_ready (rs := [4]) (by kernel_rfl) (by simp) ?_
          refine AllReadyH.cons rfl (fun K hK => ?_) AllReadyH.nil
          rw [if_pos (by rfl)]
          refine wp_append_own _ (.tmp 33) (.tmp 36) 31 (by rfl) w0.heap.size 22 i0 (.string ⟨#[]⟩) 1 16 Tryz.underlying31 hi hz0 hz1 hz2 rfl (by decide) u6 k _ (by rfl) hR2.b ⟨pA2, 0, none⟩ 1 1 [.string s] (by rfl) rfl (oneL hA2.c) (by simp [Value.oneCell']) (by unfold maxLen; omega) (by omega) hR2.bl.size ?_
          intro vB3 W3 ho hg _
          have hR3 := hR2.appB hg ho
          have hE3 := hE2.grB hR2 hg
          have hS3 := keepSB hF hg hS2 hpp
          refine hK.out _ _ hS3 (fun hT => ?_)
          clear hK hT ho hg
          try simp only [Act.put, List.setIfInBounds_toArray]
          refine wpAnyH_ready (rs := [8]) (by kernel_rfl) (by simp) ?_
          refine AllReadyH.cons rfl (fun K hK => ?_) AllReadyH.nil
          rw [if_pos (by rfl)]
          refine wp_append_own _ (.tmp 38) (.tmp 40) 32 (by rfl) w0.heap.size 50 i1 (.agg #[.bool false, .string ⟨#[]⟩]) 2 24 Tryz.underlying32 hy hy0 hy1 hy2 rfl (by decide) u7 k _ (by rfl) hR3.e ⟨pE1, 0, none⟩ 1 1 [.bool rg, .string rE] (by rfl) rfl (two_cellV hE3.c0 hE3.c1) (by simp [Value.oneCell']) (by unfold maxLen; omega) (by omega) hR3.bl.size ?_
          intro vE4 W4 ho hg _
          have hR4 := hR3.appE hg ho
          have hS4 := keepSE hF hg hS3 hpp
          refine hK.out _ _ hS4 (fun hT => ?_)
          clear hK hT ho hg
          try simp only [Act.put]
          refine wpAnyH_take (i := 9) (oi := { dst := some 6, op := _, type := _, pos := _, after := _, guard := _ }) (v := vB3) rfl (by kernel_rfl) (by kernel_rfl) (by kernel_rfl) (fun _ _ _ h => h) (Or.inl ⟨by rfl, fun w' hSw => (by (try dsimp only at hSw); go_simp)⟩) (by assumption) ?_
          try simp only [Act.put]
          refine wpAnyH_take (i := 10) (oi := { dst := some 7, op := _, type := _, pos := _, after := _, guard := _ }) (v := vE4) rfl (by kernel_rfl) (by kernel_rfl) (by kernel_rfl) (fun _ _ _ h => h) (Or.inl ⟨by rfl, fun w' hSw => (by (try dsimp only at hSw); go_simp)⟩) (by assumption) ?_
          try simp only [Act.put]
          refine wpAnyH_done (by kernel_rfl) ?_ _
          rw [← HLB.out, ← HLE.out] at hR4
          go_wp2_with fail
          first | exact ⟨⟨k + 1, by omega, by go_num, hR4⟩, by simp [intOf]; omega⟩ | exact ⟨⟨_, _, _, _, _, _, _, _, _, _, _, _, _, _, _, _, _, _, _, _, _, _, _, _, _, _, _, _, _, _, _, _, _, _, _, _, ⟨k + 1, by omega, by go_num, hR4⟩, rfl⟩, by simp [intOf]; omega⟩
-- }}T9
    · obtain rfl : nt = k := by omega
      rw [List.take_of_length_le (by rw [HNT.out]; omega)] at hR
      have hbf := hb.trans (hR.bl.mono hb.size)
      obtain ⟨ab, c1, rfl, hnb⟩ := own_NS hR.b
      obtain ⟨ae, c2, rfl, hie⟩ := own_IS hR.e
      clear hR hB
      go_wp2_with fail
      go_ret3
      exact ⟨_, _, _, _, rfl, hnb, hie, hbf⟩
end Go.Proofs.YtdlbnioidfhhcaaGreat

/- linear: images, inRange, Images, Holds. -/
namespace Go.Proofs.YtdlbnioidfhhcaaGreat
open Go.RowKit Num
set_option maxRecDepth 20000
set_option linter.unusedVariables false
/-- the sizes of coefficients and integers are those of the laws -/
structure SmS (S : StM) (l : List (Bool × ByteArray)) : Prop where
  q : ∀ q ∈ S.Q, SzQ (eqp q)
  l : SzL l
/-- what the walk of images wants of an equation -/
def EqF (S : StM) (l : List (Bool × ByteArray)) (IM : EqR → ByteArray) (q : EqR) : Prop :=
  ∃ j : Nat, q.1 = (j : Int) ∧ j < S.G.length ∧ gpE (S.G.getD j (⟨#[]⟩, ⟨#[]⟩)).1 (S.G.getD j (⟨#[]⟩, ⟨#[]⟩)).2 (lbT q.2.2.2.2) (leT l q.2.2.2.2) = 0 ∧
    gpS (S.G.getD j (⟨#[]⟩, ⟨#[]⟩)).1 (S.G.getD j (⟨#[]⟩, ⟨#[]⟩)).2 (lbT q.2.2.2.2) (leT l q.2.2.2.2) = IM q ∧ (∀ t ∈ q.2.2.2.2, TmOk l t) ∧ q.2.2.2.2.length ≤ 64
theorem many_q {S : StM} (h : manyB S.pl = false) : S.G.length ≤ 8 ∧ S.V.length ≤ 64 ∧ S.Q.length ≤ 64 ∧ ∀ q ∈ S.Q, q.2.2.2.2.length ≤ 64 := by
  rw [manyB_pl] at h
  simp only [Bool.or_eq_false_iff, decide_eq_false_iff_not] at h
  refine ⟨by omega, by omega, by omega, fun q hq => ?_⟩
  have h2 := h.2.2.2
  rw [Bool.eq_false_iff] at h2
  rcases Nat.lt_or_ge 64 q.2.2.2.2.length with h3 | h3
  · exact absurd (List.any_eq_true.2 ⟨q, hq, by unfold lgQ eqp; exact decide_eq_true h3⟩) h2
  · exact h3
theorem eq_facts {S : StM} {l : List (Bool × ByteArray)} (h : lckE S.pl = 0) (hl : l.all ivB = true) (hlen : l.length = S.V.length) (hz : SmS S l) : ∀ q ∈ S.Q, EqF S l (fun q => imQ S.pl l (eqp q)) q := fun q hq => by
  obtain ⟨hf, hm, he, ht⟩ := ck_parts h
  have hq' : eqp q ∈ S.pl.Q := by rw [StM.pl_Q]; exact List.mem_map_of_mem hq
  obtain ⟨f1, f2, f3, f4⟩ := form_q hf hq'
  obtain ⟨i1, i2, i3⟩ := im_ok h hl hlen hq' (hz.q q hq) hz.l
  refine ⟨q.1.toNat, by have : 0 ≤ q.1 := f1; omega, f2, i1, rfl, fun t ht' => ?_, (many_q hm).2.2.2 q hq⟩
  obtain ⟨g1, g2, g3, g4⟩ := f4 t ht'
  have w2 := (wit_t hl hlen g2).2
  exact ⟨t.2.1.toNat, by omega, by have : t.2.1.toNat < S.V.length := g2; omega, g4, w2, i2 t ht'⟩
/-- what images returns -/
def IMP (S : StM) (l : List (Bool × ByteArray)) (w : World) : Ending → World → Prop := fun e w' => ∃ ao c, e = .returned (.tuple #[.slice ao S.Q.length c, .int .i64 0]) ∧ NS w' ao (imS S.pl l) ∧ Below w.heap.size w w'
set_option maxHeartbeats 16000000 in
theorem images_any (a : StA) (S : StM) (bo : Option Addr) (n c : Nat) (l : List (Bool × ByteArray)) (w : World) (hS : SS w a S) (hok : S.ok) (hl : IS w bo l) (hn : l.length = n) (hck : lckE S.pl = 0) (hli : l.all ivB = true) (hln : n = S.V.length) (hz : SmS S l) :
    Calls Tryz.prog 51 #[.agg #[.slice a.ga S.G.length a.gc, .slice a.va S.V.length a.vc, .slice a.qa S.Q.length a.qc], .slice bo n c] w (IMP S l w) := by
  have HF := Lib.hid (eq_facts hck hli (hn.trans hln) hz)
  have hmq := many_q (ck_parts hck).2.1
  have hn1 : n ≤ 64 := by omega
  unfold IMP
  have e1 : imS S.pl l = S.Q.map (fun q => imQ S.pl l (eqp q)) := by unfold imS; rw [StM.pl_Q, List.map_map]; rfl
  rw [e1]
  obtain ⟨IM, hIM⟩ : ∃ f, (fun q => imQ S.pl l (eqp q)) = f := ⟨_, rfl⟩
  rw [hIM] at HF ⊢
  obtain ⟨hg8, _, hq64, _⟩ := hmq
  clear hck hli hln hz e1 hIM
  have hb1 := (Below.refl _ w).alloc (Nat.le_refl _) (.cells #[.slice a.ga S.G.length a.gc, .slice a.va S.V.length a.vc, .slice a.qa S.Q.length a.qc] 42)
  have hb := hb1.alloc hb1.size (.cells #[.slice bo n c] 32)
  have hX := (SXB.new w a S).below ((Below.refl _ (w.alloc (.cells #[.slice a.ga S.G.length a.gc, .slice a.va S.V.length a.vc, .slice a.qa S.Q.length a.qc] 42))).alloc (Nat.le_refl _) (.cells #[.slice bo n c] 32)) (SXB.new w a S).lt
  have hp : ((w.alloc (.cells #[.slice a.ga S.G.length a.gc, .slice a.va S.V.length a.vc, .slice a.qa S.Q.length a.qc] 42)).alloc (.cells #[.slice bo n c] 32)).cell? ⟨w.heap.size + 1, 0, none⟩ = some (.slice bo n c) := by
    have := heap_alloc_new (w.alloc (.cells #[.slice a.ga S.G.length a.gc, .slice a.va S.V.length a.vc, .slice a.qa S.Q.length a.qc] 42)) (.cells #[.slice bo n c] 32)
    rw [World.size_alloc] at this
    rw [Lib.cell_of_heap this]; rfl
  have hS0 := hS.below hb (Nat.le_refl _)
  have hl0 := hl.below hb (Nat.le_refl _)
  have hX0 := hX.c0
  have hX2 := hX.c2
  have HG := Lib.hid hS0.g
  have HQ := Lib.hid hS0.q
  have HL := Lib.hid hl0
  have HNN := Lib.hid hn
  obtain ⟨i0, hi, hz0, hz1, hz2⟩ := info_parts info_nat
  have HI := Lib.hid (And.intro hi (And.intro hz0 (And.intro hz1 hz2)))
  clear hi hz0 hz1 hz2 hS hl hS0 hl0 hX hok hb1 hn
  unfold EqF at HF
  obtain ⟨ga, gc, va, vc, qa, qc⟩ := a
  obtain ⟨G, V, Q⟩ := S
  simp only at hb hX0 hX2 hp HG HQ HL HF hg8 hq64 ⊢
  obtain ⟨ng, hng⟩ : ∃ n, G.length = n := ⟨_, rfl⟩
  obtain ⟨nq, hnq⟩ : ∃ n, Q.length = n := ⟨_, rfl⟩
  simp only [hng, hnq] at hb hX0 hX2 hp HG HQ HL HF hg8 hq64 ⊢
  have HNG := Lib.hid hng
  have HNQ := Lib.hid hnq
  clear hng hnq
  go_enter Tryz.func51, Tryz.ntmps51
  go_wp2_with fail
  generalize hw0 : World.alloc (World.alloc _ _) _ = w0 at hb hX0 hX2 hp HG HQ HL ⊢
  clear hw0
  go_wp2_with fail
  have hR := RD.start w0
  go_loopw [7, 18] (fun v7 v18 wr => ∃ k : Nat, k ≤ nq ∧ v18 = .int .i64 (k : Int) ∧ RD w0 wr v7 (.slice none 0 0) k 0 ((Q.take k).map IM) []) (fun _ v18 _ => nq - (intOf v18).toNat)
  case atStart => exact ⟨0, by omega, rfl, hR⟩
  case round =>
    clear hR
    obtain ⟨k, hk, rfl, hR⟩ := hrel
    have hB := hR.bl
    have d0 := cells_keepL hB (Nat.le_refl _) _ _ hX0
    have d2 := cells_keepL hB (Nat.le_refl _) _ _ hX2
    have dp := cells_keepL hB (Nat.le_refl _) _ _ hp
    by_cases hlt : k < nq
    · have hkQ : k < Q.length := by rw [HNQ.out]; exact hlt
      obtain ⟨b, off, rfl, e0, e1, e2, hT⟩ := (HQ.out.keep (cells_keepL hB (Nat.le_refl _))) k hkQ
      obtain ⟨j, hj1, hj2, hgE, hgS, htm, h64⟩ := HF.out _ (List.getElem_mem hkQ)
      have hst : (Q.take (k + 1)).map IM = (Q.take k).map IM ++ [IM Q[k]] := by rw [List.take_succ_eq_append_getElem hkQ, List.map_append]; rfl
      generalize IM Q[k] = X at hgS hst
      generalize Q[k] = x at e0 e1 e2 hT hj1 hgE hgS htm h64
      obtain ⟨i, T, ta, tc, L⟩ := x
      simp only at e0 e1 e2 hT hj1 hgE hgS htm h64
      subst hj1
      have hjG : j < G.length := by rw [HNG.out]; exact hj2
      rw [grp_at hjG] at hgE hgS
      obtain ⟨b2, off2, rfl, f0, f1⟩ := (HG.out.keep (cells_keepL hB (Nat.le_refl _))) j hjG
      generalize G[j] = y at f0 f1 hgE hgS
      obtain ⟨M, O⟩ := y
      simp only at f0 f1 hgE hgS
      obtain ⟨nt, hnt⟩ : ∃ n, L.length = n := ⟨_, rfl⟩
      rw [hnt] at e2 h64
      have HST := Lib.hid hst
      have hN := QB.new wr (j : Int) T (.slice ta nt tc)
      have n0 := hN.c0
      have n1 := hN.c1
      have n2 := hN.c2
      have hbN := (Below.refl _ wr).alloc (Nat.le_refl _) (.cells #[.int .i64 (j : Int), .string T, .slice ta nt tc] 68)
      have hR1 := hR.alloc (.cells #[.int .i64 (j : Int), .string T, .slice ta nt tc] 68)
      have dp1 := cells_keepL hbN (Nat.le_refl _) _ _ dp
      have x0 := cells_keepL hbN (Nat.le_refl _) _ _ d0
      have f2 := cells_keepL hbN (Nat.le_refl _) _ _ f0
      have f3 := cells_keepL hbN (Nat.le_refl _) _ _ f1
      have HL1 := (HL.out.keepL (cells_keepL hB (Nat.le_refl _))).keepL (cells_keepL hbN (Nat.le_refl _))
      have HCO := Lib.hid (collect_any (j : Int) T ta nt tc L (w.heap.size + 1) bo n c l (wr.alloc (.cells #[.int .i64 (j : Int), .string T, .slice ta nt tc] 68)) (hT.keep (cells_keepL hbN (Nat.le_refl _))) hnt h64 HL1 HNN.out (by omega) dp1 htm)
      unfold CLP at HCO
      have HPR := Lib.hid (fun w ab c1 ae c2 hN hI => gProduct_any M O ab ae c1 c2 nt nt (lbT L) (leT l L) w hN hI (by unfold lbT; rw [List.length_map, hnt]) (by unfold leT; rw [List.length_map, hnt]) (by omega) (by omega))
      rw [hgE, hgS] at HPR
      clear hst hnt htm hgE hgS hjG hT hkQ HL1 dp1 hR hB d0 dp f0 f1 hbN
      go_wp2_with fail
      clear e0 e1 e2
      generalize hw1 : World.alloc wr _ = w1 at hN n0 n1 n2 hR1 x0 f2 f3 HCO ⊢
      clear hw1
      refine HCO.out.mono ?_; rintro e w2 ⟨ab, c1, ae, c2, rfl, hNS, hIS, b2'⟩
      have hR2 := hR1.below b2'
      have y0 := cells_keepL b2' (Nat.le_refl _) _ _ x0
      have y1 := cells_keepL b2' (Nat.le_refl _) _ _ n0
      have g0 := cells_keepL b2' (Nat.le_refl _) _ _ f2
      have g1 := cells_keepL b2' (Nat.le_refl _) _ _ f3
      have HPP := Lib.hid (HPR.out w2 ab c1 ae c2 hNS hIS)
      clear hN n0 n1 n2 hR1 x0 f2 f3 HCO HPR hNS hIS b2'
      go_wp2_with fail
      refine HPP.out.mono ?_; rintro e w3 ⟨rfl, b3⟩
      have hR3 := hR2.below b3
      obtain ⟨hi, hz0, hz1, hz2⟩ := HI.out
      have hR4 := hR3.alloc (.cells #[.string X] 22)
      have hNC := (SB.new w3 X).c
      clear hR2 y0 y1 g0 g1 HPP b3
      go_wp2_with (at_builtin; refine wpList_append_own _ rfl (.tmp 47) (.tmp 49) 31 rfl w0.heap.size 22 i0 (.string ⟨#[]⟩) 1 16 Tryz.underlying31 hi hz0 hz1 hz2 rfl (by decide) u7 k ((Q.take k).map IM |>.map Value.string) rfl hR4.b ⟨w3.heap.size, 0, none⟩ 1 1 [.string X] rfl rfl (oneL hNC) ?o1 ?o2 ?o3 hR4.bl.size ?_; (case o1 => simp [Value.oneCell']); (case o2 => unfold maxLen; omega); (case o3 => omega); intro v1 w9 hown hgrow _; have hR5 := hR4.appB hgrow hown; rw [← HST.out] at hR5; clear hown hgrow)
      exact ⟨⟨k + 1, by omega, by go_num, hR5⟩, by simp [intOf]; omega⟩
    · obtain rfl : nq = k := by omega
      rw [List.take_of_length_le (by rw [HNQ.out]; omega)] at hR
      have hbf := hb.trans (hR.bl.mono hb.size)
      obtain ⟨ab, c1, rfl, hnb⟩ := own_NS hR.b
      clear hR hB
      go_wp2_with fail
      go_ret2
      exact ⟨_, _, rfl, hnb, hbf⟩
end Go.Proofs.YtdlbnioidfhhcaaGreat

/- linear: inRange, Images, Holds. -/
namespace Go.Proofs.YtdlbnioidfhhcaaGreat
open Go.RowKit Num
set_option maxRecDepth 20000
set_option linter.unusedVariables false
theorem ord_valid : ∀ {G : List (ByteArray × ByteArray)}, G.all fmG = true → IsN (ordL G) (Num.nv (ordL G))
  | [], _ => isN0
  | g :: r, h => by
    rw [List.all_cons, Bool.and_eq_true] at h
    unfold ordL
    split
    · exact ord_valid h.2
    · have h1 := h.1
      unfold fmG at h1
      rw [Bool.and_eq_true] at h1
      exact isN_of_valid h1.2
theorem cmpL {s t : ByteArray} {a b : Nat} {z : Int} (hs : IsN s a) (ht : IsN t b) (h : ncmp a b = z) : ∀ w, Calls Tryz.prog 43 #[.string s, .string t] w fun e w' => e = .returned (.int .i64 z) ∧ w = w' := fun w => (Cmp_any s t a b w hs ht).mono fun _ _ ⟨h1, h2⟩ => ⟨by rw [h1, h], h2⟩
/-- less, or not -/
theorem ncmpLt (a b : Nat) : (a < b ∧ ncmp a b = -1) ∨ (¬ a < b ∧ (ncmp a b = 0 ∨ ncmp a b = 1)) := by
  rcases ncmp3 a b with ⟨h, e⟩ | ⟨h, e⟩ | ⟨h, e⟩
  · exact .inl ⟨h, e⟩
  · exact .inr ⟨by omega, .inl e⟩
  · exact .inr ⟨by omega, .inr e⟩
theorem zip_at {V : List ByteArray} {l : List (Bool × ByteArray)} {k : Nat} (h1 : k < V.length) (h2 : k < l.length) : (V.zip l).drop k = (V[k], l[k]) :: (V.zip l).drop (k + 1) := by
  have h : k < (V.zip l).length := by rw [List.length_zip]; omega
  rw [List.drop_eq_getElem_cons h, List.getElem_zip]
/-- rdE is 0 exactly if all is well -/
theorem rd_zero {S : StM} {l : List (Bool × ByteArray)} (h : rdE S.pl l = 0) : lckE S.pl = 0 ∧ formB S.pl = true ∧ l.all ivB = true ∧ l.length = S.V.length := by
  unfold rdE at h
  split at h
  · rename_i h1
    split at h
    · rename_i h2
      split at h
      · rename_i h3
        exact ⟨by unfold lckE; rw [if_pos h1.1]; exact h2, h1.1, h1.2, h3⟩
      · cases h
    · rename_i h2; exact absurd h h2
  · cases h
set_option maxHeartbeats 8000000 in
theorem limages_any (a : StA) (S : StM) (bo : Option Addr) (n c : Nat) (l : List (Bool × ByteArray)) (w : World) (hS : SS w a S) (hok : S.ok) (hl : IS w bo l) (hn : l.length = n) (hn1 : n ≤ maxLen) (hz : SmS S l) :
    Calls Tryz.prog 32 #[.agg #[.slice a.ga S.G.length a.gc, .slice a.va S.V.length a.vc, .slice a.qa S.Q.length a.qc], .slice bo n c] w fun e w' => ∃ ao m c', e = .returned (.tuple #[.slice ao m c', .int .i64 (rdE S.pl l)]) ∧ m = (imgS S.pl l).length ∧ NS w' ao (imgS S.pl l) ∧ Below w.heap.size w w' := by
  have hb := (Below.refl _ w).alloc (Nat.le_refl _) (.cells #[.slice a.ga S.G.length a.gc, .slice a.va S.V.length a.vc, .slice a.qa S.Q.length a.qc] 42)
  have hX := SXB.new w a S
  have hS0 := hS.below hb (Nat.le_refl _)
  have hl0 := hl.below hb (Nat.le_refl _)
  have hX0 := hX.c0
  have hX1 := hX.c1
  have hX2 := hX.c2
  have HRD := Lib.hid (ready_any a S bo n c l (w.alloc (.cells #[.slice a.ga S.G.length a.gc, .slice a.va S.V.length a.vc, .slice a.qa S.Q.length a.qc] 42)) hS0 hok hl0 hn hn1)
  by_cases h0 : rdE S.pl l = 0
  · obtain ⟨r1, r2, r3, r4⟩ := rd_zero h0
    have HIM := Lib.hid (fun w' (hb' : Below (w.alloc (.cells #[.slice a.ga S.G.length a.gc, .slice a.va S.V.length a.vc, .slice a.qa S.Q.length a.qc] 42)).heap.size (w.alloc (.cells #[.slice a.ga S.G.length a.gc, .slice a.va S.V.length a.vc, .slice a.qa S.Q.length a.qc] 42)) w') => images_any a S bo n c l w' (hS0.below hb' (Nat.le_refl _)) hok (hl0.below hb' (Nat.le_refl _)) hn r1 r3 (by omega) hz)
    unfold IMP at HIM
    have hi : imgS S.pl l = imS S.pl l := by unfold imgS; rw [if_pos h0]
    have hlen : S.Q.length = (imS S.pl l).length := by unfold imS; rw [List.length_map, StM.pl_Q, List.length_map]
    rw [hi]
    rw [h0] at HRD ⊢
    obtain ⟨I, hI⟩ : ∃ I, imS S.pl l = I := ⟨_, rfl⟩
    rw [hI] at hlen HIM ⊢
    have HLN := Lib.hid hlen
    clear hlen hi hI r1 r2 r3 r4 h0 hz hS hS0 hl hl0 hn hok hX
    go_enter Tryz.func32, Tryz.ntmps32
    go_wp2_with fail
    generalize hw0 : World.alloc _ _ = w0 at hb hX0 hX1 hX2 HRD HIM ⊢
    clear hw0
    go_wp2_with fail
    refine HRD.out.mono ?_; rintro e w1 ⟨rfl, b1⟩
    have hb1 := hb.trans (b1.mono hb.size)
    have y0 := cells_keepL b1 (Nat.le_refl _) _ _ hX0
    have y1 := cells_keepL b1 (Nat.le_refl _) _ _ hX1
    have y2 := cells_keepL b1 (Nat.le_refl _) _ _ hX2
    go_wp2_with fail
    refine (HIM.out _ b1).mono ?_; rintro e w2 ⟨ao, c', rfl, hN, b2⟩
    have hb2 := hb1.trans (b2.mono hb1.size)
    go_wp2_with fail
    go_ret2
    exact ⟨_, _, _, rfl, HLN.out, hN, hb2⟩
  · have hi : imgS S.pl l = [] := by unfold imgS; rw [if_neg h0]
    rw [hi]
    obtain ⟨Z, hZ⟩ : ∃ Z, rdE S.pl l = Z := ⟨_, rfl⟩
    rw [hZ] at h0 HRD ⊢
    have q1 : (Z != 0) = true := by rw [bne_iff_ne]; exact h0
    have q2 : (Z == 0) = false := by rw [beq_eq_false_iff_ne]; exact h0
    clear hi hZ hz hS hS0 hl hl0 hn hok hX
    go_enter Tryz.func32, Tryz.ntmps32
    go_wp2_with fail
    generalize hw0 : World.alloc _ _ = w0 at hb hX0 hX1 hX2 HRD ⊢
    clear hw0
    go_wp2_with fail
    refine HRD.out.mono ?_; rintro e w1 ⟨rfl, b1⟩
    have hb1 := hb.trans (b1.mono hb.size)
    go_wp2_with fail
    go_ret2
    exact ⟨_, _, _, rfl, rfl, NS.nil _ _, hb1⟩
end Go.Proofs.YtdlbnioidfhhcaaGreat
