import Derived.Test.YtdlbnioidfhhcaaGreatPwA
import Derived.Test.YtdlbnioidfhhcaaGreatPow
import Derived.Lib.MinMax
import Derived.RangeFuncBox
import Derived.Laws.AppendOwn
import Derived.Deep.RegionHeld3
import Derived.BigQuiet
/- power: Product and Exp. -/
namespace Go.Proofs.YtdlbnioidfhhcaaGreat
open Go.RowKit Num
set_option maxRecDepth 20000
set_option linter.unusedVariables false
/-- a variable of type Nat -/
def SB (W : World) (b : Nat) (s : ByteArray) : Prop := W.heap[b]? = some (.cells #[.string s] 22 (0, 0))
section
variable {W W' : World} {b : Nat} {s : ByteArray}
theorem SB.lt (h : SB W b s) : b < W.heap.size := (Array.getElem?_eq_some_iff.1 h).1
theorem SB.c (h : SB W b s) : W.cell? ⟨b, 0, none⟩ = some (.string s) := by rw [Lib.cell_of_heap h]; rfl
theorem SB.f (h : SB W b s) : W.frozen? ⟨b, 0, none⟩ = false := Lib.frozen_of_heap h 0
theorem SB.new (W : World) (s : ByteArray) : SB (W.alloc (.cells #[.string s] 22)) W.heap.size s := heap_alloc_new W _
theorem SB.below {K : Nat} (h : SB W b s) (hb : Below K W W') (hB : b < K) : SB W' b s := (hb.block b hB).trans h
theorem SB.alloc (h : SB W b s) (o : Obj) : SB (W.alloc o) b s := (Below.heap_alloc W o b h.lt).trans h
theorem SB.set (h : SB W b s) (t : ByteArray) : SB (W.setCell ⟨b, 0, none⟩ (.string t)) b t := by
  unfold SB at h ⊢
  simp only [World.setCell, Array.getElem?_modify, if_true, h, Option.map_some]
  simp
end
/-- the cells of a row of strings -/
def scells (n : Nat) (f : Nat → ByteArray) : Array Value := (Array.range n).map fun i => .string (f i)
theorem size_scells (n : Nat) (f : Nat → ByteArray) : (scells n f).size = n := by simp [scells]
theorem scells_get (n : Nat) (f : Nat → ByteArray) (i : Nat) (h : i < n) : (scells n f)[i]? = some (.string (f i)) := by simp [scells, h]
theorem scells_congr {n : Nat} {f g : Nat → ByteArray} (h : ∀ i, i < n → f i = g i) : scells n f = scells n g := by
  apply Array.ext
  · simp [scells]
  · intro i h1 h2
    simp [scells] at h1 ⊢
    exact h i h1
theorem scells_set (n : Nat) (f : Nat → ByteArray) (i : Nat) (v : ByteArray) : (scells n f).setIfInBounds i (.string v) = scells n (fun j => if j = i then v else f j) := by
  apply Array.ext
  · simp [scells]
  · intro j h1 h2
    simp [scells] at h1 ⊢
    rw [Array.getElem_setIfInBounds (by simpa using h1)]
    by_cases e : i = j
    · subst e; simp
    · have e' : j ≠ i := fun h => e h.symm
      simp [e, e']
theorem madeCells_str (n : Nat) : madeCells #[Value.string ⟨#[]⟩] n = scells n (fun _ => ⟨#[]⟩) := by
  apply Array.ext
  · simp [scells, madeCells]
  · intro j h1 h2
    simp [scells, madeCells, Nat.mod_one]
/-- block b is a row of n strings, given by f -/
def SArr (w : World) (b : Nat) (n : Nat) (f : Nat → ByteArray) : Prop := w.heap[b]? = some (.cells (scells n f) 22 (0, 0))
section
variable {w : World} {b : Nat} {n : Nat} {f : Nat → ByteArray}
theorem SArr.cell (h : SArr w b n f) {i : Nat} (hi : i < n) : w.cell? ⟨b, i, none⟩ = some (.string (f i)) := by
  unfold World.cell?; rw [show w.heap[(⟨b, i, none⟩ : Addr).block]? = _ from h]
  simp [scells_get n f i hi]
theorem SArr.free (h : SArr w b n f) (i : Nat) : w.frozen? ⟨b, i, none⟩ = false := by
  unfold World.frozen?; rw [show w.heap[(⟨b, i, none⟩ : Addr).block]? = _ from h]; simp
theorem SArr.lt (h : SArr w b n f) : b < w.heap.size := (Array.getElem?_eq_some_iff.1 h).1
theorem SArr.congr {g : Nat → ByteArray} (h : SArr w b n f) (e : ∀ i, i < n → f i = g i) : SArr w b n g := by
  unfold SArr; rw [← scells_congr e]; exact h
theorem SArr.set (h : SArr w b n f) (i : Nat) (v : ByteArray) : SArr (w.setCell ⟨b, i, none⟩ (.string v)) b n (fun j => if j = i then v else f j) := by
  unfold SArr at h ⊢
  simp only [World.setCell, Array.getElem?_modify, if_true, h, Option.map_some]
  simp [scells_set]
theorem SArr.below {K : Nat} {w' : World} (h : SArr w b n f) (hb : Below K w w') (hB : b < K) : SArr w' b n f := by
  unfold SArr; rw [hb.block b hB]; exact h
theorem SArr.new (w : World) (n : Nat) (f : Nat → ByteArray) : SArr (w.alloc (.cells (scells n f) 22)) w.heap.size n f := heap_alloc_new w _
end
/-- make([]Nat, n) -/
theorem wpList_make_str (w : World) {ops : Array Oper} {rest : List Oper} {o : Oper} {a : Act} {Q : Exit → Act → World → Prop}
    (hg : o.guard = none) (l c : Operand) (hop : o.op = Op.makeSlice 31 l c) (kl kc : IntKind) (n : Nat) (hl : a.eval l = .int kl (n : Int)) (hc : a.eval c = .int kc (n : Int)) (b3 : n ≤ 1000000)
    (hK : ∀ w', SArr w' w.heap.size n (fun _ => ⟨#[]⟩) → Below w.heap.size w w' → w.heap.size < w'.heap.size → wpList Tryz.prog ops Q rest (a.put o.dst (.slice (some ⟨w.heap.size, 0, none⟩) n n)) w') :
    wpList Tryz.prog ops Q (o :: rest) a w := by
  obtain ⟨i, hi, hz0, hz1, hz2⟩ := info_parts info_nat
  refine wpList_plain hg fun K hK' => ?_
  have hrun := run_make (P := Tryz.prog) w 31 22 i (.string ⟨#[]⟩) Tryz.underlying31 hi hz0 kl kc n n (by omega) (Int.le_refl _) (by rw [hz2]; omega) (by omega)
  rw [hz1, Nat.mul_one, show (Value.string ⟨#[]⟩).cells = #[Value.string ⟨#[]⟩] from rfl, madeCells_str] at hrun
  simp only [Int.toNat_natCast] at hrun
  unfold Oper.wp
  simp [execOp, hop, hl, hc, hrun, Result.andThen]
  exact hK' _ _ (hK _ (SArr.new _ _ _) ((Below.refl _ _).alloc (Nat.le_refl _) _) (by simp))
/-- the closure of Product -/
theorem times1_any (x acc M O : ByteArray) (a b m : Nat) (bo bg : Nat) (w : World) (ho : SB w bo acc) (hG : GB w bg M O) (hx : IsN x b) (ha : IsN acc a) (hM : IsN M m) (h0 : 0 < m) :
    Calls Tryz.prog 55 #[.string x, .pointer (some ⟨bo, 0, none⟩), .pointer (some ⟨bg, 0, none⟩)] w fun e w' => e = .returned (.tuple #[]) ∧ SB w' bo (enc (a * b % m)) ∧ Below bo w w' := by
  have HX := Lib.hid hx
  have HA := Lib.hid ha
  have HM := Lib.hid hM
  clear hx ha hM
  have c0 := hG.c0
  have c1 := ho.c
  go_enter Tryz.func55, Tryz.ntmps55
  go_wp2_with fail
  refine (ModMul_ok _ _ _ _ _ _ _ HA.out HX.out HM.out h0).mono ?_; rintro e w1 ⟨rfl, b1⟩
  have ho1 := ho.below b1 ho.lt
  have c2 := ho1.c
  have f2 := ho1.f
  clear c0 c1
  go_wp2_with fail
  go_end0
  exact ⟨rfl, ho1.set _, (b1.mono (Nat.le_of_lt ho.lt)).setCell (p := ⟨bo, 0, none⟩) (Nat.le_refl _) _⟩
/-- the bases and exponents of a product -/
def prs (m : Nat) (l : List ByteArray) (es : List (Bool × ByteArray)) : List (Nat × Nat) := List.zipWith (fun x (e : Bool × ByteArray) => (sb m (nv x) e.1, nv e.2)) l es
/-- what Product answers -/
def gpE (M O : ByteArray) (l : List ByteArray) (es : List (Bool × ByteArray)) : Int := ckE M O l es (decide (l.length = es.length))
def gpS (M O : ByteArray) (l : List ByteArray) (es : List (Bool × ByteArray)) : ByteArray := mo (gpE M O l es) (pr (prs (nv M) l es) % nv M)
theorem prs_len {m : Nat} {l : List ByteArray} {es : List (Bool × ByteArray)} {n : Nat} (h1 : l.length = n) (h2 : es.length = n) : (prs m l es).length = n := by unfold prs; rw [List.length_zipWith]; omega
theorem prs_get {m : Nat} {l : List ByteArray} {es : List (Bool × ByteArray)} {k : Nat} (hk : k < (prs m l es).length) (h1 : k < l.length) (h2 : k < es.length) : (prs m l es)[k] = (sb m (nv (l.getD k ⟨#[]⟩)) (es.getD k (false, ⟨#[]⟩)).1, nv (es.getD k (false, ⟨#[]⟩)).2) := by
  have e1 : l.getD k ⟨#[]⟩ = l[k] := by simp [List.getD_eq_getElem?_getD, h1]
  have e2 : es.getD k (false, ⟨#[]⟩) = es[k] := by simp [List.getD_eq_getElem?_getD, h2]
  rw [e1, e2]
  exact List.getElem_zipWith
/-- the greatest number of digits of the first k exponents -/
def mxb (es : List (Bool × ByteArray)) : Nat → Nat
  | 0 => 0
  | k + 1 => max (mxb es k) (bl (nv (es.getD k (false, ⟨#[]⟩)).2))
theorem mxb_le (es : List (Bool × ByteArray)) : ∀ (k j : Nat), j < k → bl (nv (es.getD j (false, ⟨#[]⟩)).2) ≤ mxb es k
  | 0, j, h => by omega
  | k + 1, j, h => by
    show _ ≤ max _ _
    rcases Nat.lt_or_ge j k with h' | h'
    · have := mxb_le es k j h'; omega
    · obtain rfl : j = k := by omega
      omega
theorem mxb_top {es : List (Bool × ByteArray)} (h : ∀ x ∈ es, IsN x.2 (nv x.2)) : ∀ k : Nat, k ≤ es.length → mxb es k ≤ 1024
  | 0, _ => by simp [mxb]
  | k + 1, hk => by
    show max _ _ ≤ _
    have := mxb_top h k (by omega)
    have hx := h es[k] (List.getElem_mem (by omega))
    have e : es.getD k (false, ⟨#[]⟩) = es[k] := by simp [List.getD_eq_getElem?_getD, show k < es.length by omega]
    rw [e]
    have := bl_top hx.le
    omega
theorem wrapd {k : Nat} (h : k ≤ 1024) : IntKind.i64.wrap ((k : Int) - 1) = (k : Int) - 1 := by rw [IntKind.wrap_i64]; omega
/-- what the slice of bases holds: the first k are as they are to be raised -/
def bsF (m : Nat) (l : List ByteArray) (es : List (Bool × ByteArray)) (k : Nat) (j : Nat) : ByteArray := if j < k then enc (sb m (nv (l.getD j ⟨#[]⟩)) (es.getD j (false, ⟨#[]⟩)).1) else ⟨#[]⟩
theorem NS.get {w : World} {ao : Option Addr} {L : List ByteArray} (h : NS w ao L) {k : Nat} (hk : k < L.length) : ∃ b off, ao = some ⟨b, off, none⟩ ∧ w.cell? ⟨b, off + k, none⟩ = some (.string (L.getD k ⟨#[]⟩)) := by
  obtain ⟨b, off, h1, h2⟩ := h k hk
  exact ⟨b, off, h1, by rw [h2]; simp [List.getD_eq_getElem?_getD, hk]⟩
theorem IS.get {w : World} {ao : Option Addr} {L : List (Bool × ByteArray)} (h : IS w ao L) {k : Nat} (hk : k < L.length) : ∃ b off, ao = some ⟨b, off, none⟩ ∧ w.cell? ⟨b, off + k * 2, none⟩ = some (.bool (L.getD k (false, ⟨#[]⟩)).1) ∧ w.cell? ⟨b, off + k * 2 + 1, none⟩ = some (.string (L.getD k (false, ⟨#[]⟩)).2) := by
  obtain ⟨b, off, h1, h2, h3⟩ := h k hk
  exact ⟨b, off, h1, by rw [h2]; simp [List.getD_eq_getElem?_getD, hk], by rw [h3]; simp [List.getD_eq_getElem?_getD, hk]⟩
theorem cell_set_ne {w : World} {b i c j : Nat} {v u : Value} (h : w.cell? ⟨b, i, none⟩ = some v) (hne : b ≠ c) : (w.setCell ⟨c, j, none⟩ u).cell? ⟨b, i, none⟩ = some v := by
  rw [← h]
  unfold World.cell?
  rw [show (w.setCell ⟨c, j, none⟩ u).heap[(⟨b, i, none⟩ : Addr).block]? = _ from Below.heap_setCell _ _ _ _ hne]
/-- what is known of a base and its exponent -/
structure It (M O : ByteArray) (m : Nat) (x : ByteArray) (e : Bool × ByteArray) : Prop where
  hx : IsN x (nv x)
  g : Nat.gcd (nv x) m = 1
  he : IsN e.2 (nv e.2)
  lt : nv x < m
theorem it_of {M O : ByteArray} {l : List ByteArray} {es : List (Bool × ByteArray)} {same : Bool} (h0 : ckE M O l es same = 0) {k : Nat} (h1 : k < l.length) (h2 : k < es.length) : It M O (nv M) (l.getD k ⟨#[]⟩) (es.getD k (false, ⟨#[]⟩)) := by
  obtain ⟨hv, hg, _, hel⟩ := ck_ok h0
  have e1 : l.getD k ⟨#[]⟩ = l[k] := by simp [List.getD_eq_getElem?_getD, h1]
  have e2 : es.getD k (false, ⟨#[]⟩) = es[k] := by simp [List.getD_eq_getElem?_getD, h2]
  rw [e1, e2]
  have a1 := List.all_eq_true.1 hv.1 _ (List.getElem_mem h1)
  have a2 := List.all_eq_true.1 hv.2 _ (List.getElem_mem h2)
  have a3 := List.all_eq_true.1 hel _ (List.getElem_mem h1)
  unfold ivB at a2
  rw [Bool.and_eq_true] at a2
  exact ⟨isN_of_valid a1, el_unit a3, isN_of_valid a2.1, el_lt a3⟩
theorem It.sbN {M O : ByteArray} {m : Nat} {x : ByteArray} {e : Bool × ByteArray} (h : It M O m x e) (hM : IsN M m) (h2 : 2 ≤ m) : IsN (enc (sb m (nv x) e.1)) (sb m (nv x) e.1) := by
  have : sb m (nv x) e.1 < m := by
    unfold Num.sb
    split
    · exact (invm_ok (by omega) h.g).1
    · exact h.lt
  exact IsN.mk' (Nat.le_trans (blen_mono (Nat.le_of_lt this)) hM.le)
theorem bsF_next (m : Nat) (l : List ByteArray) (es : List (Bool × ByteArray)) (k j : Nat) : bsF m l es (k + 1) j = if j = k then enc (sb m (nv (l.getD k ⟨#[]⟩)) (es.getD k (false, ⟨#[]⟩)).1) else bsF m l es k j := by
  unfold bsF
  by_cases h : j = k
  · subst h; rw [if_pos (by omega), if_pos rfl]
  · rw [if_neg h]
    by_cases h2 : j < k
    · rw [if_pos h2, if_pos (by omega)]
    · rw [if_neg h2, if_neg (by omega)]
set_option maxHeartbeats 8000000 in
theorem gProduct_ok (M O : ByteArray) (ao bo : Option Addr) (cl ce n : Nat) (l : List ByteArray) (es : List (Bool × ByteArray)) (w : World) (hl : NS w ao l) (he : IS w bo es) (h1 : l.length = n) (h2 : es.length = n) (hn : n ≤ 1000) (h0 : ckE M O l es true = 0) :
    Calls Tryz.prog 35 #[.agg #[.string M, .string O], .slice ao n cl, .slice bo n ce] w fun e w' => e = .returned (.tuple #[.string (enc (pr (prs (nv M) l es) % nv M)), .int .i64 0]) ∧ Below w.heap.size w w' := by
  obtain ⟨hv, hg, _, hel⟩ := ck_ok h0
  obtain ⟨hM, hO, hm2, _⟩ := gE_ok hg
  have HIT := Lib.hid (fun k (hk : k < n) => it_of h0 (k := k) (by omega) (by omega))
  have HMX := Lib.hid (fun k (hk : k ≤ n) => mxb_top (es := es) (fun x hx => isN_of_valid (by have := List.all_eq_true.1 hv.2 x hx; unfold ivB at this; rw [Bool.and_eq_true] at this; exact this.1)) k (by omega))
  have HCK0 := fun w (a : NS w ao l) (b : IS w bo es) => checked_any M O ao bo cl ce l es true w a b (by omega) (by omega)
  rw [h1, h2, h0] at HCK0
  have HCK := Lib.hid HCK0
  have HLN := Lib.hid (prs_len (m := nv M) h1 h2)
  have HGT : Hid (∀ k (hk : k < (prs (nv M) l es).length), k < n → (prs (nv M) l es)[k] = (sb (nv M) (nv (l.getD k ⟨#[]⟩)) (es.getD k (false, ⟨#[]⟩)).1, nv (es.getD k (false, ⟨#[]⟩)).2)) := fun k hk a => prs_get hk (show k < l.length by omega) (show k < es.length by omega)
  obtain ⟨m, hm⟩ : ∃ m, nv M = m := ⟨_, rfl⟩
  obtain ⟨L, hL⟩ : ∃ L, prs m l es = L := ⟨_, rfl⟩
  rw [hm] at hM hm2 HIT HLN HGT ⊢
  rw [hL] at HLN HGT ⊢
  have HM := Lib.hid hM
  have H2 := Lib.hid hm2
  have H1 := Lib.hid (And.intro h1 h2)
  clear hv hg hel hM hO hm2 h0 HCK0 hL hm h1 h2
  have hb := (Below.refl _ w).alloc (Nat.le_refl _) (.cells #[.string M, .string O] 26)
  have hG := GB.new w M O
  go_enter Tryz.func35, Tryz.ntmps35
  go_wp2_with fail
  have hl0 := hl.below hb (Nat.le_refl _)
  have he0 := he.below hb (Nat.le_refl _)
  generalize w.alloc _ = w0 at hb hG hl0 he0 ⊢
  clear hl he
  refine (HCK.out _ hl0 he0).mono ?_; rintro e w1 ⟨rfl, b1⟩
  have hG1 := hG.below b1 hG.lt
  have hl1 := hl0.below b1 (Nat.le_refl _)
  have he1 := he0.below b1 (Nat.le_refl _)
  have hb1 := hb.trans (b1.mono hb.size)
  have g1 := hG1.lt
  clear hG hl0 he0 hb b1 HCK
  go_wp2_with (at_make; refine wpList_make_str _ rfl _ _ rfl _ _ n rfl rfl (by omega) ?_; intro w2 hS bS sS)
  have hG2 := hG1.below bS hG1.lt
  have HL2 := Lib.hid (hl1.below bS (Nat.le_refl _))
  have HE2 := Lib.hid (he1.below bS (Nat.le_refl _))
  have hb2 := hb1.trans (bS.mono hb1.size)
  have hlq : Hid (∀ k (hk : k < l.length), ∃ b off, ao = some ⟨b, off, none⟩ ∧ b < w1.heap.size ∧ w2.cell? ⟨b, off + k, none⟩ = some (.string (l.getD k ⟨#[]⟩))) := fun k hk => by
    obtain ⟨b, off, e1, e2⟩ := hl1.get hk
    exact ⟨b, off, e1, cellB_lt e2, cellB_below e2 bS (Nat.le_refl _)⟩
  have heq : Hid (∀ k (hk : k < es.length), ∃ b off, bo = some ⟨b, off, none⟩ ∧ b < w1.heap.size ∧ w2.cell? ⟨b, off + k * 2, none⟩ = some (.bool (es.getD k (false, ⟨#[]⟩)).1) ∧ w2.cell? ⟨b, off + k * 2 + 1, none⟩ = some (.string (es.getD k (false, ⟨#[]⟩)).2)) := fun k hk => by
    obtain ⟨b, off, e1, e2, e3⟩ := he1.get hk
    exact ⟨b, off, e1, cellB_lt e2, cellB_below e2 bS (Nat.le_refl _), cellB_below e3 bS (Nat.le_refl _)⟩
  clear hG1 hl1 he1 hb1 bS HL2 HE2
  generalize w1.heap.size = q at hS sS g1 hlq heq ⊢
  go_wp2_with fail
  go_loopw [10, 37] (fun vm vi wr => ∃ k : Nat, k ≤ n ∧ vm = .int .i64 (mxb es k : Int) ∧ vi = .int .i64 k ∧ SArr wr q n (bsF (nv M) l es k) ∧ Below q w2 wr) (fun _ i _ => n - (intOf i).toNat)
  case atStart => exact ⟨0, by omega, rfl, rfl, hS.congr fun i hi => by unfold bsF; simp, Below.refl _ _⟩
  case round =>
    clear hS
    obtain ⟨k, hk, rfl, rfl, hS, hbr⟩ := hrel
    by_cases hlt : k < n
    · obtain ⟨b, off, rfl, hbq, hc⟩ := hlq.out k (by have := H1.out.1; omega)
      obtain ⟨b', off', rfl, hbq', hc1, hc2⟩ := heq.out k (by have := H1.out.2; omega)
      have HS0 := Lib.hid (HIT.out k hlt)
      obtain ⟨X, hX⟩ : ∃ X, l.getD k ⟨#[]⟩ = X := ⟨_, rfl⟩
      obtain ⟨⟨ng, t⟩, hE⟩ : ∃ E, es.getD k (false, ⟨#[]⟩) = E := ⟨_, rfl⟩
      rw [hX, hE] at HS0
      rw [hX] at hc
      rw [hE] at hc1 hc2
      have gr := hG2.below hbr g1
      have d0 := gr.c0
      have s1 := hS.cell hlt
      have s2 := hS.free k
      have hc := (hbr.cell (p := ⟨b, off + k, none⟩) hbq).trans hc
      have hc1 := (hbr.cell (p := ⟨b', off' + k * 2, none⟩) hbq').trans hc1
      have hc2o := hc2
      have hc2 := (hbr.cell (p := ⟨b', off' + k * 2 + 1, none⟩) hbq').trans hc2
      have n1 : b' ≠ q := Nat.ne_of_lt hbq'
      have n2 : q ≠ b' := Ne.symm n1
      have n3 : w.heap.size ≠ q := Nat.ne_of_lt g1
      have n4 := Ne.symm n3
      simp only [] at hc1 hc2 hc2o
      have HWX : Hid (∀ v, SArr (wr.setCell ⟨q, k, none⟩ (.string v)) q n (fun j => if j = k then v else bsF (nv M) l es k j)) := fun v => hS.set k v
      have hBW : Hid (∀ v, Below q w2 (wr.setCell ⟨q, k, none⟩ (.string v))) := fun v => hbr.setCell (p := ⟨q, k, none⟩) (Nat.le_refl _) _
      have hmx : max ((mxb es k : Nat) : Int) ((bl (nv t) : Nat) : Int) = ((mxb es (k + 1) : Nat) : Int) := by
        show _ = ((max (mxb es k) (bl (nv (es.getD k (false, ⟨#[]⟩)).2)) : Nat) : Int)
        rw [hE]; show max _ ((bl (nv t) : Nat) : Int) = ((max _ (bl (nv t)) : Nat) : Int); omega
      have HMXX := Lib.hid hmx
      have HEE := Lib.hid (And.intro hX hE)
      clear hmx hX hE
      cases ng
      · go_wp2_with fail
        refine (Bits_any t (nv t) _ HS0.out.he).mono ?_; rintro e w' ⟨rfl, rfl⟩
        go_wp2_with fail
        refine ⟨?_, ?ma⟩
        case ma => simp [intOf]; omega
        refine ⟨k + 1, by omega, congrArg (Value.int .i64) HMXX.out, by go_num, (HWX.out X).congr fun j _ => ?_, hBW.out X⟩
        rw [bsF_next, HEE.out.1, HEE.out.2]
        split
        · exact HS0.out.hx.eq
        · rfl
      · go_wp2_with fail
        refine (Inverse_yes X M (nv X) m _ HS0.out.hx HM.out (by have := H2.out; omega) HS0.out.g).mono ?_; rintro e w3 ⟨rfl, b3⟩
        have hB3 := (hBW.out X).trans (b3.mono (by have := (HWX.out X).lt; omega))
        have hS3 := (HWX.out X).below b3 (HWX.out X).lt
        have s3 := hS3.cell hlt
        have s4 := hS3.free k
        have hc3 := (hB3.cell (p := ⟨b', off' + k * 2 + 1, none⟩) hbq').trans hc2o
        try simp only [] at hc3
        clear s1 s2 d0 hc hc1 hc2 hc2o gr hS hbr b3 hBW HWX
        go_wp2_with fail
        refine (Bits_any t (nv t) _ HS0.out.he).mono ?_; rintro e w' ⟨rfl, rfl⟩
        go_wp2_with fail
        refine ⟨?_, ?mb⟩
        case mb => simp [intOf]; omega
        refine ⟨k + 1, by omega, congrArg (Value.int .i64) HMXX.out, by go_num, (hS3.set k _).congr fun j _ => ?_, hB3.setCell (p := ⟨q, k, none⟩) (Nat.le_refl _) _⟩
        rw [bsF_next, HEE.out.1, HEE.out.2, HM.out.nv]
        by_cases e : j = k
        · rw [if_pos e, if_pos e]; rfl
        · rw [if_neg e, if_neg e, if_neg e]
    · obtain rfl : n = k := by omega
      have hG3 := hG2.below hbr g1
      have hb3 := hb2.trans (hbr.mono (Nat.le_of_lt g1))
      have hz3 := hbr.size
      have HLK : Hid (∀ k (hk : k < n), ∃ b off, bo = some ⟨b, off, none⟩ ∧ b < q ∧ wr.cell? ⟨b, off + k * 2 + 1, none⟩ = some (.string (es.getD k (false, ⟨#[]⟩)).2)) := fun k hk => by
        obtain ⟨b, off, e1, e2, _, e4⟩ := heq.out k (by have := H1.out.2; omega)
        exact ⟨b, off, e1, e2, (hbr.cell (p := ⟨b, off + k * 2 + 1, none⟩) e2).trans e4⟩
      have HMX2 := Lib.hid (HMX.out n (Nat.le_refl _))
      have hwd := wrapd HMX2.out
      have hst : pr (sh (mxb es n) L) = 1 := pr_sh_zero fun x hx => by
        obtain ⟨i, hi, rfl⟩ := List.mem_iff_getElem.1 hx
        have hin : i < n := by have := HLN.out; omega
        rw [HGT.out i hi hin]
        exact Nat.lt_of_lt_of_le (lt_bl _) (Nat.pow_le_pow_right (by omega) (mxb_le es n i hin))
      have HST := Lib.hid hst
      clear hst hlq heq HMX hb2 hG2
      go_wp2_with fail
      refine (of1 _).mono ?_; rintro e w3 ⟨rfl, b3⟩
      have hG4 := hG3.below b3 hG3.lt
      have hS4 := hS.below b3 hS.lt
      have hb4 := hb3.trans (b3.mono hb3.size)
      have z3 := b3.size
      have hqz : q < w3.heap.size := hS4.lt
      have HLK2 : Hid (∀ k (hk : k < n), ∃ b off, bo = some ⟨b, off, none⟩ ∧ b < q ∧ w3.cell? ⟨b, off + k * 2 + 1, none⟩ = some (.string (es.getD k (false, ⟨#[]⟩)).2)) := fun k hk => by
        obtain ⟨b, off, e1, e2, e4⟩ := HLK.out k hk
        exact ⟨b, off, e1, e2, (b3.cell (p := ⟨b, off + k * 2 + 1, none⟩) (show b < wr.heap.size by omega)).trans e4⟩
      clear HLK hS hG3 hb3 b3 hbr
      go_wp2_with fail
      have hO := SB.new w3 (enc 1)
      have hG5 := hG4.alloc (.cells #[.string (enc 1)] 22)
      have hb5 := hb4.alloc hb4.size (.cells #[.string (enc 1)] 22)
      have hA := (Below.refl _ w3).alloc (Nat.le_refl _) (.cells #[.string (enc 1)] 22)
      have hS5 := hS4.below hA hqz
      have hz5 : (w3.alloc (.cells #[.string (enc 1)] 22)).heap.size = w3.heap.size + 1 := by simp
      have HLK3 : Hid (∀ k (hk : k < n), ∃ b off, bo = some ⟨b, off, none⟩ ∧ b < q ∧ (w3.alloc (.cells #[.string (enc 1)] 22)).cell? ⟨b, off + k * 2 + 1, none⟩ = some (.string (es.getD k (false, ⟨#[]⟩)).2)) := fun k hk => by
        obtain ⟨b, off, e1, e2, e4⟩ := HLK2.out k hk
        exact ⟨b, off, e1, e2, (hA.cell (p := ⟨b, off + k * 2 + 1, none⟩) (show b < w3.heap.size by omega)).trans e4⟩
      have hgp : w.heap.size ≤ w3.heap.size := hb4.size
      have hg2 : w.heap.size < w3.heap.size := hG4.lt
      clear HLK2 hS4 hG4 hb4 hA z3 hz3
      generalize w3.heap.size = p at hO hG5 hb5 hS5 hz5 HLK3 hqz hgp hg2 ⊢
      generalize w3.alloc _ = w4 at hO hG5 hb5 hS5 hz5 HLK3 ⊢
      have HN : Hid (∀ x, IsN (enc (x % m)) (x % m)) := fun x => IsN.mk' (mod_le HM.out (by have := H2.out; omega))
      have h1m : 1 % m = 1 := Nat.mod_eq_of_lt (by have := H2.out; omega)
      have H1M := Lib.hid h1m
      clear h1m hwd
      go_loopw [17] (fun vi wr => ∃ j : Nat, j ≤ 1024 ∧ vi = .int .i64 ((j : Int) - 1) ∧ SB wr p (enc (pr (sh j L) % m)) ∧ Below p w4 wr) (fun vi _ => (intOf vi + 1).toNat)
      case atStart => exact ⟨mxb es n, HMX2.out, rfl, by rw [HST.out, H1M.out]; exact hO, Below.refl _ _⟩
      case round =>
        clear hO HST
        obtain ⟨j, hj, rfl, hO, hbr⟩ := hrel
        cases j with
        | zero =>
          rw [sh_0] at hO
          have c9 := hO.c
          go_wp2_with fail
          go_ret2
          exact ⟨rfl, hb5.trans (hbr.mono (by omega))⟩
        | succ j =>
          have hjj : ((j + 1 : Nat) : Int) - 1 = (j : Int) := by omega
          rw [hjj]
          have wr2 := wrapd (k := j) (by omega)
          have hj2 : j ≤ 1000000 := by omega
          have hj3 : (0 : Int) ≤ (j : Int) := by omega
          have c9 := hO.c
          have hG6 := hG5.below hbr hg2
          have HSQ : Hid (pr (sh (j + 1) L) % m * (pr (sh (j + 1) L) % m) % m = mid j 0 L % m) := by
            show _ = _
            rw [mid_0, ← Nat.mul_mod]
          clear hjj
          go_wp2_with fail
          refine (times1_any _ _ M O _ _ m p w.heap.size _ hO hG6 (HN.out _) (HN.out _) HM.out (by have := H2.out; omega)).mono ?_
          rw [HSQ.out]
          rintro e w5 ⟨rfl, hO5, hb6⟩
          have hb7 := hbr.trans hb6
          clear hO hbr c9 hG6 hb6 HSQ
          go_wp2_with fail
          go_loopw [87] (fun vk wr => ∃ k : Nat, k ≤ n ∧ vk = .int .i64 (k : Int) ∧ SB wr p (enc (mid j k L % m)) ∧ Below p w4 wr) (fun vk _ => n - (intOf vk).toNat)
          case atStart => exact ⟨0, by omega, rfl, hO5, hb7⟩
          case round =>
            clear hO5 hb7
            obtain ⟨k, hk, rfl, hO, hbr⟩ := hrel
            have c9 := hO.c
            have hG6 := hG5.below hbr hg2
            have hS6 := hS5.below hbr hqz
            by_cases hlt : k < n
            · obtain ⟨b, off, rfl, e2, e4⟩ := HLK3.out k hlt
              have e4 := (hbr.cell (p := ⟨b, off + k * 2 + 1, none⟩) (show b < p by omega)).trans e4
              have s1 := hS6.cell hlt
              have HL := HGT.out k (by have := HLN.out; omega) hlt
              have HST := mid_step j k L (by have := HLN.out; omega)
              rw [HL] at HST
              have HT := Lib.hid (HIT.out k hlt)
              obtain ⟨X, hX⟩ : ∃ X, l.getD k ⟨#[]⟩ = X := ⟨_, rfl⟩
              obtain ⟨⟨ng, t⟩, hE⟩ : ∃ E, es.getD k (false, ⟨#[]⟩) = E := ⟨_, rfl⟩
              have hbs : bsF (nv M) l es n k = enc (sb m (nv X) ng) := by unfold bsF; rw [if_pos hlt, hX, hE, HM.out.nv]
              rw [hX, hE] at HT HST
              rw [hE] at e4
              rw [hbs] at s1
              have HBN := Lib.hid (HT.out.sbN HM.out H2.out)
              obtain ⟨B, hB⟩ : ∃ B, sb m (nv X) ng = B := ⟨_, rfl⟩
              rw [show sb m (nv X) (ng, t).1 = B from hB] at HST HBN
              rw [hB] at s1
              obtain ⟨z, hz⟩ : ∃ z, mid j k L = z := ⟨_, rfl⟩
              rw [hz] at HST hO c9
              have HSTEP : Hid (mid j (k + 1) L = z * if tb (nv t) j = true then B else 1) := HST
              have HE4 : Hid (IsN t (nv t)) := HT.out.he
              try simp only [] at e4
              clear HL HST HT hX hE hbs hB hz
              cases hbit : tb (nv t) j
              · have hm1 : mid j (k + 1) L = z := by rw [HSTEP.out, hbit]; simp
                have HM1 := Lib.hid hm1
                clear hm1
                go_wp2_with fail
                refine (Bit_any t (nv t) j _ HE4.out hj2).mono ?_; rw [hbit]; rintro e w6 ⟨rfl, rfl⟩
                go_wp2_with fail
                exact ⟨⟨k + 1, by omega, by go_num, by rw [HM1.out]; exact hO, hbr⟩, by simp [intOf]; omega⟩
              · have hm1 : mid j (k + 1) L = z * B := by rw [HSTEP.out, hbit]; simp
                have HM1 : Hid (z % m * B % m = mid j (k + 1) L % m) := by show _ = _; rw [hm1, Nat.mod_mul_mod]
                clear hm1
                go_wp2_with fail
                refine (Bit_any t (nv t) j _ HE4.out hj2).mono ?_; rw [hbit]; rintro e w6 ⟨rfl, rfl⟩
                go_wp2_with fail
                refine (times1_any _ _ M O _ _ m p w.heap.size _ hO hG6 HBN.out (HN.out _) HM.out (by have := H2.out; omega)).mono ?_
                rw [HM1.out]
                rintro e w7 ⟨rfl, hO7, hb8⟩
                have hb9 := hbr.trans hb8
                clear hO hbr c9 hG6 hS6 s1 e4 hb8
                go_wp2_with fail
                exact ⟨⟨k + 1, by omega, by go_num, hO7, hb9⟩, by simp [intOf]; omega⟩
            · obtain rfl : n = k := by omega
              have HME : Hid (mid j n L = pr (sh j L)) := by show _ = _; rw [← HLN.out]; exact mid_end j L
              rw [HME.out] at hO c9
              clear hlt
              go_wp2_with fail
              exact ⟨⟨j, by omega, rfl, hO, hbr⟩, by simp [intOf]⟩
theorem gProduct_any (M O : ByteArray) (ao bo : Option Addr) (cl ce n1 n2 : Nat) (l : List ByteArray) (es : List (Bool × ByteArray)) (w : World) (hl : NS w ao l) (he : IS w bo es) (h1 : l.length = n1) (h2 : es.length = n2) (hn : n1 ≤ 1000) (hn2 : n2 ≤ 1000) :
    Calls Tryz.prog 35 #[.agg #[.string M, .string O], .slice ao n1 cl, .slice bo n2 ce] w fun e w' => e = .returned (.tuple #[.string (gpS M O l es), .int .i64 (gpE M O l es)]) ∧ Below w.heap.size w w' := by
  by_cases h0 : gpE M O l es = 0
  · rw [gpS, h0, mo_zero]
    obtain ⟨_, _, hs, _⟩ := ck_ok h0
    have hs' := of_decide_eq_true hs
    have h0' : ckE M O l es true = 0 := by rw [gpE, hs] at h0; exact h0
    obtain rfl : n2 = n1 := by omega
    exact gProduct_ok M O ao bo cl ce n2 l es w hl he h1 h2 hn h0'
  · rw [gpS, mo_bad h0]
    have hk : gpE M O l es = 3 ∨ gpE M O l es = 6 ∨ gpE M O l es = 13 := (ck_cases M O l es _).resolve_left h0
    have hb := (Below.refl _ w).alloc (Nat.le_refl _) (.cells #[.string M, .string O] 26)
    have hd : decide (l.length = es.length) = ((n1 : Int) == (n2 : Int)) := by
      rw [h1, h2]
      by_cases e : n1 = n2
      · rw [decide_eq_true e, e]; simp
      · rw [decide_eq_false e]
        symm
        rw [beq_eq_false_iff_ne]
        omega
    have fin : ∀ (sm : Bool) (E : Int), decide (l.length = es.length) = sm → E = gpE M O l es → (((n1 : Int) == (n2 : Int)) = sm) → (E = 3 ∨ E = 6 ∨ E = 13) →
        Calls Tryz.prog 35 #[.agg #[.string M, .string O], .slice ao n1 cl, .slice bo n2 ce] w fun e w' => e = .returned (.tuple #[.string ⟨#[]⟩, .int .i64 E]) ∧ Below w.heap.size w w' := by
      intro sm E hsm hE hu hk
      have HCK0 := fun w (a : NS w ao l) (b : IS w bo es) => checked_any M O ao bo cl ce l es sm w a b (by omega) (by omega)
      rw [h1, h2] at HCK0
      have hE2 : ckE M O l es sm = E := by rw [hE, gpE, hsm]
      rw [hE2] at HCK0
      have HCK := Lib.hid HCK0
      clear HCK0 hE2 hE hd h0 h1 h2 hsm
      rcases hk with rfl | rfl | rfl
      all_goals
        go_enter Tryz.func35, Tryz.ntmps35
        go_wp2_with fail
        have hl0 := hl.below hb (Nat.le_refl _)
        have he0 := he.below hb (Nat.le_refl _)
        generalize w.alloc _ = w0 at hb hl0 he0 ⊢
        first
          | rw [hu]
          | skip
        refine (HCK.out w0 hl0 he0).mono ?_; rintro e w1 ⟨rfl, b1⟩
        go_wp2_with fail
        go_ret2
        exact ⟨rfl, hb.trans (b1.mono hb.size)⟩
    exact fin _ _ rfl rfl hd.symm hk
theorem ns_one (w : World) (x : ByteArray) : NS (w.alloc (.cells #[.string x] 22)) (some ⟨w.heap.size, 0, none⟩) [x] := by
  refine NS.of_str fun j hj => ?_
  rw [Lib.cell_of_heap (heap_alloc_new w _)]
  match j, hj with
  | 0, _ => rfl
theorem is_one (w : World) (ng : Bool) (t : ByteArray) : IS (w.alloc (.cells #[.bool ng, .string t] 50)) (some ⟨w.heap.size, 0, none⟩) [(ng, t)] := by
  intro k hk
  match k, hk with
  | 0, _ => exact ⟨_, _, rfl, by rw [Lib.cell_of_heap (heap_alloc_new w _)]; rfl, by rw [Lib.cell_of_heap (heap_alloc_new w _)]; rfl⟩
theorem gExp_any (M O x : ByteArray) (ng : Bool) (t : ByteArray) (w : World) :
    Calls Tryz.prog 64 #[.agg #[.string M, .string O], .string x, .agg #[.bool ng, .string t]] w fun e w' => e = .returned (.tuple #[.string (gpS M O [x] [(ng, t)]), .int .i64 (gpE M O [x] [(ng, t)])]) ∧ Below w.heap.size w w' := by
  have HP : Hid (∀ w ao bo, NS w ao [x] → IS w bo [(ng, t)] → Calls Tryz.prog 35 #[.agg #[.string M, .string O], .slice ao 1 1, .slice bo 1 1] w fun e w' => e = .returned (.tuple #[.string (gpS M O [x] [(ng, t)]), .int .i64 (gpE M O [x] [(ng, t)])]) ∧ Below w.heap.size w w') :=
    fun w ao bo a b => gProduct_any M O ao bo 1 1 1 1 [x] [(ng, t)] w a b rfl rfl (by omega) (by omega)
  obtain ⟨S, hS⟩ : ∃ S, gpS M O [x] [(ng, t)] = S := ⟨_, rfl⟩
  obtain ⟨E, hE⟩ : ∃ E, gpE M O [x] [(ng, t)] = E := ⟨_, rfl⟩
  rw [hS, hE] at HP ⊢
  clear hS hE
  go_enter Tryz.func64, Tryz.ntmps64
  go_wp2_with fail
  have hb : Below w.heap.size w ((((w.alloc (.cells #[.string M, .string O] 26)).alloc (.cells #[.bool ng, .string t] 50)).alloc (.cells #[.string x] 22)).alloc (.cells #[.bool ng, .string t] 50)) :=
    ((((Below.refl _ w).alloc (Nat.le_refl _) _).alloc (by simp) _).alloc (by simp; omega) _).alloc (by simp; omega) _
  have hN := (ns_one ((w.alloc (.cells #[.string M, .string O] 26)).alloc (.cells #[.bool ng, .string t] 50)) x).below ((Below.refl _ _).alloc (Nat.le_refl _) (.cells #[.bool ng, .string t] 50)) (Nat.le_refl _)
  have hI := is_one (((w.alloc (.cells #[.string M, .string O] 26)).alloc (.cells #[.bool ng, .string t] 50)).alloc (.cells #[.string x] 22)) ng t
  simp only [World.size_alloc] at hN hI
  generalize World.alloc _ _ = w1 at hb hN hI ⊢
  refine (HP.out _ _ _ hN hI).mono ?_; rintro e w2 ⟨rfl, b2⟩
  go_wp2_with fail
  go_ret2
  exact ⟨rfl, hb.trans (b2.mono hb.size)⟩
end Go.Proofs.YtdlbnioidfhhcaaGreat

/- power: NewTable. -/
namespace Go.Proofs.YtdlbnioidfhhcaaGreat
open Go.RowKit Num
set_option maxRecDepth 20000
set_option linter.unusedVariables false
/-- row i of a table -/
def tnum (m b i d : Nat) : Nat := b ^ (16 ^ i * d) % m
def trow (m b i k : Nat) : List ByteArray := (List.range k).map fun d => enc (tnum m b i d)
theorem trow_len (m b i k : Nat) : (trow m b i k).length = k := by simp [trow]
theorem trow_succ (m b i k : Nat) : trow m b i (k + 1) = trow m b i k ++ [enc (tnum m b i k)] := by unfold trow; rw [List.range_succ, List.map_append]; rfl
theorem trow_get {m b i k d : Nat} (h : d < (trow m b i k).length) : (trow m b i k)[d] = enc (tnum m b i d) := by simp [trow]
theorem tnum_zero {m b i : Nat} (h : 2 ≤ m) : tnum m b i 0 = 1 := by unfold tnum; rw [Nat.mul_zero, Nat.pow_zero, Nat.mod_eq_of_lt (by omega)]
theorem tnum_next (m b i d : Nat) : tnum m b i d * tnum m b i 1 % m = tnum m b i (d + 1) := by
  unfold tnum
  rw [← Nat.mul_mod, ← Nat.pow_add, Nat.mul_add]
theorem tnum_top (m b i : Nat) : tnum m b i 16 = tnum m b (i + 1) 1 := by
  unfold tnum
  rw [Nat.mul_one, Nat.pow_succ]
theorem tnum_lt {m b i d : Nat} (h : 2 ≤ m) : tnum m b i d < m := Nat.mod_lt _ (by omega)
/-- the error of NewTable -/
def ntE (M O s : ByteArray) (bits : Int) : Int := if validB s = true then (if gE M O = 0 then (if bits < 0 ∨ 1024 < bits then 2 else if elN (nv M) (nv O) (nv s) = true then 0 else 13) else gE M O) else 3
theorem own_ge {w : World} {K e size n : Nat} {v : Value} {xs : List Value} (h : w.ownsRow K e size v n xs) : ∀ k, v.ownBlock = some k → K ≤ k ∧ ∃ cur, w.heap[k]? = some (.cells cur e (0, 0)) := by
  intro k hk
  rcases h.2 with ⟨h1, _⟩ | ⟨g, cap, cur, h1, h2, h3, _⟩
  · subst h1; cases hk
  · subst h1; cases hk; exact ⟨h2, cur, h3⟩
end Go.Proofs.YtdlbnioidfhhcaaGreat

/- power: Table.Exp. -/
namespace Go.Proofs.YtdlbnioidfhhcaaGreat
open Go.RowKit Num
set_option maxRecDepth 20000
set_option linter.unusedVariables false
end Go.Proofs.YtdlbnioidfhhcaaGreat
