import Derived.Test.YtcjbbneiobnmkaaGreatPwA
import Derived.Test.YtcjbbneiobnmkaaGreatPow
import Derived.Lib.MinMax
import Derived.RangeFuncBox
import Derived.Laws.AppendOwn
import Derived.Deep.RegionHeld3
import Derived.BigQuiet
/- power: Product and Exp. -/
namespace Go.Proofs.YtcjbbneiobnmkaaGreat
open Go.RowKit Num
set_option maxRecDepth 20000
set_option linter.unusedVariables false
/-- a variable of type Nat -/
def SB (W : World) (b : Nat) (s : ByteArray) : Prop := W.heap[b]? = some (.cells #[.string s] 22 (0, 0))
section
variable {W W' : World} {b : Nat} {s : ByteArray}
theorem SB.lt (h : SB W b s) : b < W.heap.size := (Array.getElem?_eq_some_iff.1 h).1
theorem SB.c (h : SB W b s) : W.cell? ⟨b, 0, none⟩ = some (.string s) := by rw [Lib.cell_of_heap h]; rfl
theorem SB.f (h : SB W b s) : W.frozen? ⟨b, 0, none⟩ = false := Lib.frozen_of_heap h 0
theorem SB.new (W : World) (s : ByteArray) : SB (W.alloc (.cells #[.string s] 22)) W.heap.size s := heap_alloc_new W _
theorem SB.below {K : Nat} (h : SB W b s) (hb : Below K W W') (hB : b < K) : SB W' b s := (hb.block b hB).trans h
theorem SB.alloc (h : SB W b s) (o : Obj) : SB (W.alloc o) b s := (Below.heap_alloc W o b h.lt).trans h
theorem SB.set (h : SB W b s) (t : ByteArray) : SB (W.setCell ⟨b, 0, none⟩ (.string t)) b t := by
  unfold SB at h ⊢
  simp only [World.setCell, Array.getElem?_modify, if_true, h, Option.map_some]
  simp
end
/-- the cells of a row of strings -/
def scells (n : Nat) (f : Nat → ByteArray) : Array Value := (Array.range n).map fun i => .string (f i)
theorem size_scells (n : Nat) (f : Nat → ByteArray) : (scells n f).size = n := by simp [scells]
theorem scells_get (n : Nat) (f : Nat → ByteArray) (i : Nat) (h : i < n) : (scells n f)[i]? = some (.string (f i)) := by simp [scells, h]
theorem scells_congr {n : Nat} {f g : Nat → ByteArray} (h : ∀ i, i < n → f i = g i) : scells n f = scells n g := by
  apply Array.ext
  · simp [scells]
  · intro i h1 h2
    simp [scells] at h1 ⊢
    exact h i h1
theorem scells_set (n : Nat) (f : Nat → ByteArray) (i : Nat) (v : ByteArray) : (scells n f).setIfInBounds i (.string v) = scells n (fun j => if j = i then v else f j) := by
  apply Array.ext
  · simp [scells]
  · intro j h1 h2
    simp [scells] at h1 ⊢
    rw [Array.getElem_setIfInBounds (by simpa using h1)]
    by_cases e : i = j
    · subst e; simp
    · have e' : j ≠ i := fun h => e h.symm
      simp [e, e']
theorem madeCells_str (n : Nat) : madeCells #[Value.string ⟨#[]⟩] n = scells n (fun _ => ⟨#[]⟩) := by
  apply Array.ext
  · simp [scells, madeCells]
  · intro j h1 h2
    simp [scells, madeCells, Nat.mod_one]
/-- block b is a row of n strings, given by f -/
def SArr (w : World) (b : Nat) (n : Nat) (f : Nat → ByteArray) : Prop := w.heap[b]? = some (.cells (scells n f) 22 (0, 0))
section
variable {w : World} {b : Nat} {n : Nat} {f : Nat → ByteArray}
theorem SArr.cell (h : SArr w b n f) {i : Nat} (hi : i < n) : w.cell? ⟨b, i, none⟩ = some (.string (f i)) := by
  unfold World.cell?; rw [show w.heap[(⟨b, i, none⟩ : Addr).block]? = _ from h]
  simp [scells_get n f i hi]
theorem SArr.free (h : SArr w b n f) (i : Nat) : w.frozen? ⟨b, i, none⟩ = false := by
  unfold World.frozen?; rw [show w.heap[(⟨b, i, none⟩ : Addr).block]? = _ from h]; simp
theorem SArr.lt (h : SArr w b n f) : b < w.heap.size := (Array.getElem?_eq_some_iff.1 h).1
theorem SArr.congr {g : Nat → ByteArray} (h : SArr w b n f) (e : ∀ i, i < n → f i = g i) : SArr w b n g := by
  unfold SArr; rw [← scells_congr e]; exact h
theorem SArr.set (h : SArr w b n f) (i : Nat) (v : ByteArray) : SArr (w.setCell ⟨b, i, none⟩ (.string v)) b n (fun j => if j = i then v else f j) := by
  unfold SArr at h ⊢
  simp only [World.setCell, Array.getElem?_modify, if_true, h, Option.map_some]
  simp [scells_set]
theorem SArr.below {K : Nat} {w' : World} (h : SArr w b n f) (hb : Below K w w') (hB : b < K) : SArr w' b n f := by
  unfold SArr; rw [hb.block b hB]; exact h
theorem SArr.new (w : World) (n : Nat) (f : Nat → ByteArray) : SArr (w.alloc (.cells (scells n f) 22)) w.heap.size n f := heap_alloc_new w _
end
/-- make([]Nat, n) -/
theorem wpList_make_str (w : World) {ops : Array Oper} {rest : List Oper} {o : Oper} {a : Act} {Q : Exit → Act → World → Prop}
    (hg : o.guard = none) (l c : Operand) (hop : o.op = Op.makeSlice 38 l c) (kl kc : IntKind) (n : Nat) (hl : a.eval l = .int kl (n : Int)) (hc : a.eval c = .int kc (n : Int)) (b3 : n ≤ 1000000)
    (hK : ∀ w', SArr w' w.heap.size n (fun _ => ⟨#[]⟩) → Below w.heap.size w w' → w.heap.size < w'.heap.size → wpList Tryz.prog ops Q rest (a.put o.dst (.slice (some ⟨w.heap.size, 0, none⟩) n n)) w') :
    wpList Tryz.prog ops Q (o :: rest) a w := by
  obtain ⟨i, hi, hz0, hz1, hz2⟩ := info_parts info_nat
  refine wpList_plain hg fun K hK' => ?_
  have hrun := run_make (P := Tryz.prog) w 38 22 i (.string ⟨#[]⟩) Tryz.underlying38 hi hz0 kl kc n n (by omega) (Int.le_refl _) (by rw [hz2]; omega) (by omega)
  rw [hz1, Nat.mul_one, show (Value.string ⟨#[]⟩).cells = #[Value.string ⟨#[]⟩] from rfl, madeCells_str] at hrun
  simp only [Int.toNat_natCast] at hrun
  unfold Oper.wp
  simp [execOp, hop, hl, hc, hrun, Result.andThen]
  exact hK' _ _ (hK _ (SArr.new _ _ _) ((Below.refl _ _).alloc (Nat.le_refl _) _) (by simp))
/-- the closure of Product -/
theorem times1_any (x acc M O : ByteArray) (a b m : Nat) (bo bg : Nat) (w : World) (ho : SB w bo acc) (hG : GB w bg M O) (hx : IsN x b) (ha : IsN acc a) (hM : IsN M m) (h0 : 0 < m) :
    Calls Tryz.prog 62 #[.string x, .pointer (some ⟨bo, 0, none⟩), .pointer (some ⟨bg, 0, none⟩)] w fun e w' => e = .returned (.tuple #[]) ∧ SB w' bo (enc (a * b % m)) ∧ Below bo w w' := by
  have HX := Lib.hid hx
  have HA := Lib.hid ha
  have HM := Lib.hid hM
  clear hx ha hM
  have c0 := hG.c0
  have c1 := ho.c
  go_enter Tryz.func62, Tryz.ntmps62
  go_wp2_with fail
  refine (ModMul_ok _ _ _ _ _ _ _ HA.out HX.out HM.out h0).mono ?_; rintro e w1 ⟨rfl, b1⟩
  have ho1 := ho.below b1 ho.lt
  have c2 := ho1.c
  have f2 := ho1.f
  clear c0 c1
  go_wp2_with fail
  go_end0
  exact ⟨rfl, ho1.set _, (b1.mono (Nat.le_of_lt ho.lt)).setCell (p := ⟨bo, 0, none⟩) (Nat.le_refl _) _⟩
/-- the bases and exponents of a product -/
def prs (m : Nat) (l : List ByteArray) (es : List (Bool × ByteArray)) : List (Nat × Nat) := List.zipWith (fun x (e : Bool × ByteArray) => (sb m (nv x) e.1, nv e.2)) l es
/-- what Product answers -/
def gpE (M O : ByteArray) (l : List ByteArray) (es : List (Bool × ByteArray)) : Int := ckE M O l es (decide (l.length = es.length))
def gpS (M O : ByteArray) (l : List ByteArray) (es : List (Bool × ByteArray)) : ByteArray := mo (gpE M O l es) (pr (prs (nv M) l es) % nv M)
theorem prs_len {m : Nat} {l : List ByteArray} {es : List (Bool × ByteArray)} {n : Nat} (h1 : l.length = n) (h2 : es.length = n) : (prs m l es).length = n := by unfold prs; rw [List.length_zipWith]; omega
theorem prs_get {m : Nat} {l : List ByteArray} {es : List (Bool × ByteArray)} {k : Nat} (hk : k < (prs m l es).length) (h1 : k < l.length) (h2 : k < es.length) : (prs m l es)[k] = (sb m (nv (l.getD k ⟨#[]⟩)) (es.getD k (false, ⟨#[]⟩)).1, nv (es.getD k (false, ⟨#[]⟩)).2) := by
  have e1 : l.getD k ⟨#[]⟩ = l[k] := by simp [List.getD_eq_getElem?_getD, h1]
  have e2 : es.getD k (false, ⟨#[]⟩) = es[k] := by simp [List.getD_eq_getElem?_getD, h2]
  rw [e1, e2]
  exact List.getElem_zipWith
/-- the greatest number of digits of the first k exponents -/
def mxb (es : List (Bool × ByteArray)) : Nat → Nat
  | 0 => 0
  | k + 1 => max (mxb es k) (bl (nv (es.getD k (false, ⟨#[]⟩)).2))
theorem mxb_le (es : List (Bool × ByteArray)) : ∀ (k j : Nat), j < k → bl (nv (es.getD j (false, ⟨#[]⟩)).2) ≤ mxb es k
  | 0, j, h => by omega
  | k + 1, j, h => by
    show _ ≤ max _ _
    rcases Nat.lt_or_ge j k with h' | h'
    · have := mxb_le es k j h'; omega
    · obtain rfl : j = k := by omega
      omega
theorem mxb_top {es : List (Bool × ByteArray)} (h : ∀ x ∈ es, IsN x.2 (nv x.2)) : ∀ k : Nat, k ≤ es.length → mxb es k ≤ 1024
  | 0, _ => by simp [mxb]
  | k + 1, hk => by
    show max _ _ ≤ _
    have := mxb_top h k (by omega)
    have hx := h es[k] (List.getElem_mem (by omega))
    have e : es.getD k (false, ⟨#[]⟩) = es[k] := by simp [List.getD_eq_getElem?_getD, show k < es.length by omega]
    rw [e]
    have := bl_top hx.le
    omega
theorem wrapd {k : Nat} (h : k ≤ 1024) : IntKind.i64.wrap ((k : Int) - 1) = (k : Int) - 1 := by rw [IntKind.wrap_i64]; omega
/-- what the slice of bases holds: the first k are as they are to be raised -/
def bsF (m : Nat) (l : List ByteArray) (es : List (Bool × ByteArray)) (k : Nat) (j : Nat) : ByteArray := if j < k then enc (sb m (nv (l.getD j ⟨#[]⟩)) (es.getD j (false, ⟨#[]⟩)).1) else ⟨#[]⟩
theorem NS.get {w : World} {ao : Option Addr} {L : List ByteArray} (h : NS w ao L) {k : Nat} (hk : k < L.length) : ∃ b off, ao = some ⟨b, off, none⟩ ∧ w.cell? ⟨b, off + k, none⟩ = some (.string (L.getD k ⟨#[]⟩)) := by
  obtain ⟨b, off, h1, h2⟩ := h k hk
  exact ⟨b, off, h1, by rw [h2]; simp [List.getD_eq_getElem?_getD, hk]⟩
theorem IS.get {w : World} {ao : Option Addr} {L : List (Bool × ByteArray)} (h : IS w ao L) {k : Nat} (hk : k < L.length) : ∃ b off, ao = some ⟨b, off, none⟩ ∧ w.cell? ⟨b, off + k * 2, none⟩ = some (.bool (L.getD k (false, ⟨#[]⟩)).1) ∧ w.cell? ⟨b, off + k * 2 + 1, none⟩ = some (.string (L.getD k (false, ⟨#[]⟩)).2) := by
  obtain ⟨b, off, h1, h2, h3⟩ := h k hk
  exact ⟨b, off, h1, by rw [h2]; simp [List.getD_eq_getElem?_getD, hk], by rw [h3]; simp [List.getD_eq_getElem?_getD, hk]⟩
theorem cell_set_ne {w : World} {b i c j : Nat} {v u : Value} (h : w.cell? ⟨b, i, none⟩ = some v) (hne : b ≠ c) : (w.setCell ⟨c, j, none⟩ u).cell? ⟨b, i, none⟩ = some v := by
  rw [← h]
  unfold World.cell?
  rw [show (w.setCell ⟨c, j, none⟩ u).heap[(⟨b, i, none⟩ : Addr).block]? = _ from Below.heap_setCell _ _ _ _ hne]
/-- what is known of a base and its exponent -/
structure It (M O : ByteArray) (m : Nat) (x : ByteArray) (e : Bool × ByteArray) : Prop where
  hx : IsN x (nv x)
  g : Nat.gcd (nv x) m = 1
  he : IsN e.2 (nv e.2)
  lt : nv x < m
theorem it_of {M O : ByteArray} {l : List ByteArray} {es : List (Bool × ByteArray)} {same : Bool} (h0 : ckE M O l es same = 0) {k : Nat} (h1 : k < l.length) (h2 : k < es.length) : It M O (nv M) (l.getD k ⟨#[]⟩) (es.getD k (false, ⟨#[]⟩)) := by
  obtain ⟨hv, hg, _, hel⟩ := ck_ok h0
  have e1 : l.getD k ⟨#[]⟩ = l[k] := by simp [List.getD_eq_getElem?_getD, h1]
  have e2 : es.getD k (false, ⟨#[]⟩) = es[k] := by simp [List.getD_eq_getElem?_getD, h2]
  rw [e1, e2]
  have a1 := List.all_eq_true.1 hv.1 _ (List.getElem_mem h1)
  have a2 := List.all_eq_true.1 hv.2 _ (List.getElem_mem h2)
  have a3 := List.all_eq_true.1 hel _ (List.getElem_mem h1)
  unfold ivB at a2
  rw [Bool.and_eq_true] at a2
  exact ⟨isN_of_valid a1, el_unit a3, isN_of_valid a2.1, el_lt a3⟩
theorem It.sbN {M O : ByteArray} {m : Nat} {x : ByteArray} {e : Bool × ByteArray} (h : It M O m x e) (hM : IsN M m) (h2 : 2 ≤ m) : IsN (enc (sb m (nv x) e.1)) (sb m (nv x) e.1) := by
  have : sb m (nv x) e.1 < m := by
    unfold Num.sb
    split
    · exact (invm_ok (by omega) h.g).1
    · exact h.lt
  exact IsN.mk' (Nat.le_trans (blen_mono (Nat.le_of_lt this)) hM.le)
theorem bsF_next (m : Nat) (l : List ByteArray) (es : List (Bool × ByteArray)) (k j : Nat) : bsF m l es (k + 1) j = if j = k then enc (sb m (nv (l.getD k ⟨#[]⟩)) (es.getD k (false, ⟨#[]⟩)).1) else bsF m l es k j := by
  unfold bsF
  by_cases h : j = k
  · subst h; rw [if_pos (by omega), if_pos rfl]
  · rw [if_neg h]
    by_cases h2 : j < k
    · rw [if_pos h2, if_pos (by omega)]
    · rw [if_neg h2, if_neg (by omega)]
set_option maxHeartbeats 8000000 in
theorem gProduct_ok (M O : ByteArray) (ao bo : Option Addr) (cl ce n : Nat) (l : List ByteArray) (es : List (Bool × ByteArray)) (w : World) (hl : NS w ao l) (he : IS w bo es) (h1 : l.length = n) (h2 : es.length = n) (hn : n ≤ 1000) (h0 : ckE M O l es true = 0) :
    Calls Tryz.prog 23 #[.agg #[.string M, .string O], .slice ao n cl, .slice bo n ce] w fun e w' => e = .returned (.tuple #[.string (enc (pr (prs (nv M) l es) % nv M)), .int .i64 0]) ∧ Below w.heap.size w w' := by
  obtain ⟨hv, hg, _, hel⟩ := ck_ok h0
  obtain ⟨hM, hO, hm2, _⟩ := gE_ok hg
  have HIT := Lib.hid (fun k (hk : k < n) => it_of h0 (k := k) (by omega) (by omega))
  have HMX := Lib.hid (fun k (hk : k ≤ n) => mxb_top (es := es) (fun x hx => isN_of_valid (by have := List.all_eq_true.1 hv.2 x hx; unfold ivB at this; rw [Bool.and_eq_true] at this; exact this.1)) k (by omega))
  have HCK0 := fun w (a : NS w ao l) (b : IS w bo es) => checked_any M O ao bo cl ce l es true w a b (by omega) (by omega)
  rw [h1, h2, h0] at HCK0
  have HCK := Lib.hid HCK0
  have HLN := Lib.hid (prs_len (m := nv M) h1 h2)
  have HGT : Hid (∀ k (hk : k < (prs (nv M) l es).length), k < n → (prs (nv M) l es)[k] = (sb (nv M) (nv (l.getD k ⟨#[]⟩)) (es.getD k (false, ⟨#[]⟩)).1, nv (es.getD k (false, ⟨#[]⟩)).2)) := fun k hk a => prs_get hk (show k < l.length by omega) (show k < es.length by omega)
  obtain ⟨m, hm⟩ : ∃ m, nv M = m := ⟨_, rfl⟩
  obtain ⟨L, hL⟩ : ∃ L, prs m l es = L := ⟨_, rfl⟩
  rw [hm] at hM hm2 HIT HLN HGT ⊢
  rw [hL] at HLN HGT ⊢
  have HM := Lib.hid hM
  have H2 := Lib.hid hm2
  have H1 := Lib.hid (And.intro h1 h2)
  clear hv hg hel hM hO hm2 h0 HCK0 hL hm h1 h2
  have hb := (Below.refl _ w).alloc (Nat.le_refl _) (.cells #[.string M, .string O] 24)
  have hG := GB.new w M O
  go_enter Tryz.func23, Tryz.ntmps23
  go_wp2_with fail
  have hl0 := hl.below hb (Nat.le_refl _)
  have he0 := he.below hb (Nat.le_refl _)
  generalize w.alloc _ = w0 at hb hG hl0 he0 ⊢
  clear hl he
  refine (HCK.out _ hl0 he0).mono ?_; rintro e w1 ⟨rfl, b1⟩
  have hG1 := hG.below b1 hG.lt
  have hl1 := hl0.below b1 (Nat.le_refl _)
  have he1 := he0.below b1 (Nat.le_refl _)
  have hb1 := hb.trans (b1.mono hb.size)
  have g1 := hG1.lt
  clear hG hl0 he0 hb b1 HCK
  go_wp2_with (at_make; refine wpList_make_str _ rfl _ _ rfl _ _ n rfl rfl (by omega) ?_; intro w2 hS bS sS)
  have hG2 := hG1.below bS hG1.lt
  have HL2 := Lib.hid (hl1.below bS (Nat.le_refl _))
  have HE2 := Lib.hid (he1.below bS (Nat.le_refl _))
  have hb2 := hb1.trans (bS.mono hb1.size)
  have hlq : Hid (∀ k (hk : k < l.length), ∃ b off, ao = some ⟨b, off, none⟩ ∧ b < w1.heap.size ∧ w2.cell? ⟨b, off + k, none⟩ = some (.string (l.getD k ⟨#[]⟩))) := fun k hk => by
    obtain ⟨b, off, e1, e2⟩ := hl1.get hk
    exact ⟨b, off, e1, cellB_lt e2, cellB_below e2 bS (Nat.le_refl _)⟩
  have heq : Hid (∀ k (hk : k < es.length), ∃ b off, bo = some ⟨b, off, none⟩ ∧ b < w1.heap.size ∧ w2.cell? ⟨b, off + k * 2, none⟩ = some (.bool (es.getD k (false, ⟨#[]⟩)).1) ∧ w2.cell? ⟨b, off + k * 2 + 1, none⟩ = some (.string (es.getD k (false, ⟨#[]⟩)).2)) := fun k hk => by
    obtain ⟨b, off, e1, e2, e3⟩ := he1.get hk
    exact ⟨b, off, e1, cellB_lt e2, cellB_below e2 bS (Nat.le_refl _), cellB_below e3 bS (Nat.le_refl _)⟩
  clear hG1 hl1 he1 hb1 bS HL2 HE2
  generalize w1.heap.size = q at hS sS g1 hlq heq ⊢
  go_wp2_with fail
  go_loopw [10, 37] (fun vm vi wr => ∃ k : Nat, k ≤ n ∧ vm = .int .i64 (mxb es k : Int) ∧ vi = .int .i64 k ∧ SArr wr q n (bsF (nv M) l es k) ∧ Below q w2 wr) (fun _ i _ => n - (intOf i).toNat)
  case atStart => exact ⟨0, by omega, rfl, rfl, hS.congr fun i hi => by unfold bsF; simp, Below.refl _ _⟩
  case round =>
    clear hS
    obtain ⟨k, hk, rfl, rfl, hS, hbr⟩ := hrel
    by_cases hlt : k < n
    · obtain ⟨b, off, rfl, hbq, hc⟩ := hlq.out k (by have := H1.out.1; omega)
      obtain ⟨b', off', rfl, hbq', hc1, hc2⟩ := heq.out k (by have := H1.out.2; omega)
      have HS0 := Lib.hid (HIT.out k hlt)
      obtain ⟨X, hX⟩ : ∃ X, l.getD k ⟨#[]⟩ = X := ⟨_, rfl⟩
      obtain ⟨⟨ng, t⟩, hE⟩ : ∃ E, es.getD k (false, ⟨#[]⟩) = E := ⟨_, rfl⟩
      rw [hX, hE] at HS0
      rw [hX] at hc
      rw [hE] at hc1 hc2
      have gr := hG2.below hbr g1
      have d0 := gr.c0
      have s1 := hS.cell hlt
      have s2 := hS.free k
      have hc := (hbr.cell (p := ⟨b, off + k, none⟩) hbq).trans hc
      have hc1 := (hbr.cell (p := ⟨b', off' + k * 2, none⟩) hbq').trans hc1
      have hc2o := hc2
      have hc2 := (hbr.cell (p := ⟨b', off' + k * 2 + 1, none⟩) hbq').trans hc2
      have n1 : b' ≠ q := Nat.ne_of_lt hbq'
      have n2 : q ≠ b' := Ne.symm n1
      have n3 : w.heap.size ≠ q := Nat.ne_of_lt g1
      have n4 := Ne.symm n3
      simp only [] at hc1 hc2 hc2o
      have HWX : Hid (∀ v, SArr (wr.setCell ⟨q, k, none⟩ (.string v)) q n (fun j => if j = k then v else bsF (nv M) l es k j)) := fun v => hS.set k v
      have hBW : Hid (∀ v, Below q w2 (wr.setCell ⟨q, k, none⟩ (.string v))) := fun v => hbr.setCell (p := ⟨q, k, none⟩) (Nat.le_refl _) _
      have hmx : max ((mxb es k : Nat) : Int) ((bl (nv t) : Nat) : Int) = ((mxb es (k + 1) : Nat) : Int) := by
        show _ = ((max (mxb es k) (bl (nv (es.getD k (false, ⟨#[]⟩)).2)) : Nat) : Int)
        rw [hE]; show max _ ((bl (nv t) : Nat) : Int) = ((max _ (bl (nv t)) : Nat) : Int); omega
      have HMXX := Lib.hid hmx
      have HEE := Lib.hid (And.intro hX hE)
      clear hmx hX hE
      cases ng
      · go_wp2_with fail
        refine (Bits_any t (nv t) _ HS0.out.he).mono ?_; rintro e w' ⟨rfl, rfl⟩
        go_wp2_with fail
        refine ⟨?_, ?ma⟩
        case ma => simp [intOf]; omega
        refine ⟨k + 1, by omega, congrArg (Value.int .i64) HMXX.out, by go_num, (HWX.out X).congr fun j _ => ?_, hBW.out X⟩
        rw [bsF_next, HEE.out.1, HEE.out.2]
        split
        · exact HS0.out.hx.eq
        · rfl
      · go_wp2_with fail
        refine (Inverse_yes X M (nv X) m _ HS0.out.hx HM.out (by have := H2.out; omega) HS0.out.g).mono ?_; rintro e w3 ⟨rfl, b3⟩
        have hB3 := (hBW.out X).trans (b3.mono (by have := (HWX.out X).lt; omega))
        have hS3 := (HWX.out X).below b3 (HWX.out X).lt
        have s3 := hS3.cell hlt
        have s4 := hS3.free k
        have hc3 := (hB3.cell (p := ⟨b', off' + k * 2 + 1, none⟩) hbq').trans hc2o
        try simp only [] at hc3
        clear s1 s2 d0 hc hc1 hc2 hc2o gr hS hbr b3 hBW HWX
        go_wp2_with fail
        refine (Bits_any t (nv t) _ HS0.out.he).mono ?_; rintro e w' ⟨rfl, rfl⟩
        go_wp2_with fail
        refine ⟨?_, ?mb⟩
        case mb => simp [intOf]; omega
        refine ⟨k + 1, by omega, congrArg (Value.int .i64) HMXX.out, by go_num, (hS3.set k _).congr fun j _ => ?_, hB3.setCell (p := ⟨q, k, none⟩) (Nat.le_refl _) _⟩
        rw [bsF_next, HEE.out.1, HEE.out.2, HM.out.nv]
        by_cases e : j = k
        · rw [if_pos e, if_pos e]; rfl
        · rw [if_neg e, if_neg e, if_neg e]
    · obtain rfl : n = k := by omega
      have hG3 := hG2.below hbr g1
      have hb3 := hb2.trans (hbr.mono (Nat.le_of_lt g1))
      have hz3 := hbr.size
      have HLK : Hid (∀ k (hk : k < n), ∃ b off, bo = some ⟨b, off, none⟩ ∧ b < q ∧ wr.cell? ⟨b, off + k * 2 + 1, none⟩ = some (.string (es.getD k (false, ⟨#[]⟩)).2)) := fun k hk => by
        obtain ⟨b, off, e1, e2, _, e4⟩ := heq.out k (by have := H1.out.2; omega)
        exact ⟨b, off, e1, e2, (hbr.cell (p := ⟨b, off + k * 2 + 1, none⟩) e2).trans e4⟩
      have HMX2 := Lib.hid (HMX.out n (Nat.le_refl _))
      have hwd := wrapd HMX2.out
      have hst : pr (sh (mxb es n) L) = 1 := pr_sh_zero fun x hx => by
        obtain ⟨i, hi, rfl⟩ := List.mem_iff_getElem.1 hx
        have hin : i < n := by have := HLN.out; omega
        rw [HGT.out i hi hin]
        exact Nat.lt_of_lt_of_le (lt_bl _) (Nat.pow_le_pow_right (by omega) (mxb_le es n i hin))
      have HST := Lib.hid hst
      clear hst hlq heq HMX hb2 hG2
      go_wp2_with fail
      refine (of1 _).mono ?_; rintro e w3 ⟨rfl, b3⟩
      have hG4 := hG3.below b3 hG3.lt
      have hS4 := hS.below b3 hS.lt
      have hb4 := hb3.trans (b3.mono hb3.size)
      have z3 := b3.size
      have hqz : q < w3.heap.size := hS4.lt
      have HLK2 : Hid (∀ k (hk : k < n), ∃ b off, bo = some ⟨b, off, none⟩ ∧ b < q ∧ w3.cell? ⟨b, off + k * 2 + 1, none⟩ = some (.string (es.getD k (false, ⟨#[]⟩)).2)) := fun k hk => by
        obtain ⟨b, off, e1, e2, e4⟩ := HLK.out k hk
        exact ⟨b, off, e1, e2, (b3.cell (p := ⟨b, off + k * 2 + 1, none⟩) (show b < wr.heap.size by omega)).trans e4⟩
      clear HLK hS hG3 hb3 b3 hbr
      go_wp2_with fail
      have hO := SB.new w3 (enc 1)
      have hG5 := hG4.alloc (.cells #[.string (enc 1)] 22)
      have hb5 := hb4.alloc hb4.size (.cells #[.string (enc 1)] 22)
      have hA := (Below.refl _ w3).alloc (Nat.le_refl _) (.cells #[.string (enc 1)] 22)
      have hS5 := hS4.below hA hqz
      have hz5 : (w3.alloc (.cells #[.string (enc 1)] 22)).heap.size = w3.heap.size + 1 := by simp
      have HLK3 : Hid (∀ k (hk : k < n), ∃ b off, bo = some ⟨b, off, none⟩ ∧ b < q ∧ (w3.alloc (.cells #[.string (enc 1)] 22)).cell? ⟨b, off + k * 2 + 1, none⟩ = some (.string (es.getD k (false, ⟨#[]⟩)).2)) := fun k hk => by
        obtain ⟨b, off, e1, e2, e4⟩ := HLK2.out k hk
        exact ⟨b, off, e1, e2, (hA.cell (p := ⟨b, off + k * 2 + 1, none⟩) (show b < w3.heap.size by omega)).trans e4⟩
      have hgp : w.heap.size ≤ w3.heap.size := hb4.size
      have hg2 : w.heap.size < w3.heap.size := hG4.lt
      clear HLK2 hS4 hG4 hb4 hA z3 hz3
      generalize w3.heap.size = p at hO hG5 hb5 hS5 hz5 HLK3 hqz hgp hg2 ⊢
      generalize w3.alloc _ = w4 at hO hG5 hb5 hS5 hz5 HLK3 ⊢
      have HN : Hid (∀ x, IsN (enc (x % m)) (x % m)) := fun x => IsN.mk' (mod_le HM.out (by have := H2.out; omega))
      have h1m : 1 % m = 1 := Nat.mod_eq_of_lt (by have := H2.out; omega)
      have H1M := Lib.hid h1m
      clear h1m hwd
      go_loopw [17] (fun vi wr => ∃ j : Nat, j ≤ 1024 ∧ vi = .int .i64 ((j : Int) - 1) ∧ SB wr p (enc (pr (sh j L) % m)) ∧ Below p w4 wr) (fun vi _ => (intOf vi + 1).toNat)
      case atStart => exact ⟨mxb es n, HMX2.out, rfl, by rw [HST.out, H1M.out]; exact hO, Below.refl _ _⟩
      case round =>
        clear hO HST
        obtain ⟨j, hj, rfl, hO, hbr⟩ := hrel
        cases j with
        | zero =>
          rw [sh_0] at hO
          have c9 := hO.c
          go_wp2_with fail
          go_ret2
          exact ⟨rfl, hb5.trans (hbr.mono (by omega))⟩
        | succ j =>
          have hjj : ((j + 1 : Nat) : Int) - 1 = (j : Int) := by omega
          rw [hjj]
          have wr2 := wrapd (k := j) (by omega)
          have hj2 : j ≤ 1000000 := by omega
          have hj3 : (0 : Int) ≤ (j : Int) := by omega
          have c9 := hO.c
          have hG6 := hG5.below hbr hg2
          have HSQ : Hid (pr (sh (j + 1) L) % m * (pr (sh (j + 1) L) % m) % m = mid j 0 L % m) := by
            show _ = _
            rw [mid_0, ← Nat.mul_mod]
          clear hjj
          go_wp2_with fail
          refine (times1_any _ _ M O _ _ m p w.heap.size _ hO hG6 (HN.out _) (HN.out _) HM.out (by have := H2.out; omega)).mono ?_
          rw [HSQ.out]
          rintro e w5 ⟨rfl, hO5, hb6⟩
          have hb7 := hbr.trans hb6
          clear hO hbr c9 hG6 hb6 HSQ
          go_wp2_with fail
          go_loopw [87] (fun vk wr => ∃ k : Nat, k ≤ n ∧ vk = .int .i64 (k : Int) ∧ SB wr p (enc (mid j k L % m)) ∧ Below p w4 wr) (fun vk _ => n - (intOf vk).toNat)
          case atStart => exact ⟨0, by omega, rfl, hO5, hb7⟩
          case round =>
            clear hO5 hb7
            obtain ⟨k, hk, rfl, hO, hbr⟩ := hrel
            have c9 := hO.c
            have hG6 := hG5.below hbr hg2
            have hS6 := hS5.below hbr hqz
            by_cases hlt : k < n
            · obtain ⟨b, off, rfl, e2, e4⟩ := HLK3.out k hlt
              have e4 := (hbr.cell (p := ⟨b, off + k * 2 + 1, none⟩) (show b < p by omega)).trans e4
              have s1 := hS6.cell hlt
              have HL := HGT.out k (by have := HLN.out; omega) hlt
              have HST := mid_step j k L (by have := HLN.out; omega)
              rw [HL] at HST
              have HT := Lib.hid (HIT.out k hlt)
              obtain ⟨X, hX⟩ : ∃ X, l.getD k ⟨#[]⟩ = X := ⟨_, rfl⟩
              obtain ⟨⟨ng, t⟩, hE⟩ : ∃ E, es.getD k (false, ⟨#[]⟩) = E := ⟨_, rfl⟩
              have hbs : bsF (nv M) l es n k = enc (sb m (nv X) ng) := by unfold bsF; rw [if_pos hlt, hX, hE, HM.out.nv]
              rw [hX, hE] at HT HST
              rw [hE] at e4
              rw [hbs] at s1
              have HBN := Lib.hid (HT.out.sbN HM.out H2.out)
              obtain ⟨B, hB⟩ : ∃ B, sb m (nv X) ng = B := ⟨_, rfl⟩
              rw [show sb m (nv X) (ng, t).1 = B from hB] at HST HBN
              rw [hB] at s1
              obtain ⟨z, hz⟩ : ∃ z, mid j k L = z := ⟨_, rfl⟩
              rw [hz] at HST hO c9
              have HSTEP : Hid (mid j (k + 1) L = z * if tb (nv t) j = true then B else 1) := HST
              have HE4 : Hid (IsN t (nv t)) := HT.out.he
              try simp only [] at e4
              clear HL HST HT hX hE hbs hB hz
              cases hbit : tb (nv t) j
              · have hm1 : mid j (k + 1) L = z := by rw [HSTEP.out, hbit]; simp
                have HM1 := Lib.hid hm1
                clear hm1
                go_wp2_with fail
                refine (Bit_any t (nv t) j _ HE4.out hj2).mono ?_; rw [hbit]; rintro e w6 ⟨rfl, rfl⟩
                go_wp2_with fail
                exact ⟨⟨k + 1, by omega, by go_num, by rw [HM1.out]; exact hO, hbr⟩, by simp [intOf]; omega⟩
              · have hm1 : mid j (k + 1) L = z * B := by rw [HSTEP.out, hbit]; simp
                have HM1 : Hid (z % m * B % m = mid j (k + 1) L % m) := by show _ = _; rw [hm1, Nat.mod_mul_mod]
                clear hm1
                go_wp2_with fail
                refine (Bit_any t (nv t) j _ HE4.out hj2).mono ?_; rw [hbit]; rintro e w6 ⟨rfl, rfl⟩
                go_wp2_with fail
                refine (times1_any _ _ M O _ _ m p w.heap.size _ hO hG6 HBN.out (HN.out _) HM.out (by have := H2.out; omega)).mono ?_
                rw [HM1.out]
                rintro e w7 ⟨rfl, hO7, hb8⟩
                have hb9 := hbr.trans hb8
                clear hO hbr c9 hG6 hS6 s1 e4 hb8
                go_wp2_with fail
                exact ⟨⟨k + 1, by omega, by go_num, hO7, hb9⟩, by simp [intOf]; omega⟩
            · obtain rfl : n = k := by omega
              have HME : Hid (mid j n L = pr (sh j L)) := by show _ = _; rw [← HLN.out]; exact mid_end j L
              rw [HME.out] at hO c9
              clear hlt
              go_wp2_with fail
              exact ⟨⟨j, by omega, rfl, hO, hbr⟩, by simp [intOf]⟩
theorem gProduct_any (M O : ByteArray) (ao bo : Option Addr) (cl ce n1 n2 : Nat) (l : List ByteArray) (es : List (Bool × ByteArray)) (w : World) (hl : NS w ao l) (he : IS w bo es) (h1 : l.length = n1) (h2 : es.length = n2) (hn : n1 ≤ 1000) (hn2 : n2 ≤ 1000) :
    Calls Tryz.prog 23 #[.agg #[.string M, .string O], .slice ao n1 cl, .slice bo n2 ce] w fun e w' => e = .returned (.tuple #[.string (gpS M O l es), .int .i64 (gpE M O l es)]) ∧ Below w.heap.size w w' := by
  by_cases h0 : gpE M O l es = 0
  · rw [gpS, h0, mo_zero]
    obtain ⟨_, _, hs, _⟩ := ck_ok h0
    have hs' := of_decide_eq_true hs
    have h0' : ckE M O l es true = 0 := by rw [gpE, hs] at h0; exact h0
    obtain rfl : n2 = n1 := by omega
    exact gProduct_ok M O ao bo cl ce n2 l es w hl he h1 h2 hn h0'
  · rw [gpS, mo_bad h0]
    have hk : gpE M O l es = 3 ∨ gpE M O l es = 6 ∨ gpE M O l es = 13 := (ck_cases M O l es _).resolve_left h0
    have hb := (Below.refl _ w).alloc (Nat.le_refl _) (.cells #[.string M, .string O] 24)
    have hd : decide (l.length = es.length) = ((n1 : Int) == (n2 : Int)) := by
      rw [h1, h2]
      by_cases e : n1 = n2
      · rw [decide_eq_true e, e]; simp
      · rw [decide_eq_false e]
        symm
        rw [beq_eq_false_iff_ne]
        omega
    have fin : ∀ (sm : Bool) (E : Int), decide (l.length = es.length) = sm → E = gpE M O l es → (((n1 : Int) == (n2 : Int)) = sm) → (E = 3 ∨ E = 6 ∨ E = 13) →
        Calls Tryz.prog 23 #[.agg #[.string M, .string O], .slice ao n1 cl, .slice bo n2 ce] w fun e w' => e = .returned (.tuple #[.string ⟨#[]⟩, .int .i64 E]) ∧ Below w.heap.size w w' := by
      intro sm E hsm hE hu hk
      have HCK0 := fun w (a : NS w ao l) (b : IS w bo es) => checked_any M O ao bo cl ce l es sm w a b (by omega) (by omega)
      rw [h1, h2] at HCK0
      have hE2 : ckE M O l es sm = E := by rw [hE, gpE, hsm]
      rw [hE2] at HCK0
      have HCK := Lib.hid HCK0
      clear HCK0 hE2 hE hd h0 h1 h2 hsm
      rcases hk with rfl | rfl | rfl
      all_goals
        go_enter Tryz.func23, Tryz.ntmps23
        go_wp2_with fail
        have hl0 := hl.below hb (Nat.le_refl _)
        have he0 := he.below hb (Nat.le_refl _)
        generalize w.alloc _ = w0 at hb hl0 he0 ⊢
        first
          | rw [hu]
          | skip
        refine (HCK.out w0 hl0 he0).mono ?_; rintro e w1 ⟨rfl, b1⟩
        go_wp2_with fail
        go_ret2
        exact ⟨rfl, hb.trans (b1.mono hb.size)⟩
    exact fin _ _ rfl rfl hd.symm hk
theorem ns_one (w : World) (x : ByteArray) : NS (w.alloc (.cells #[.string x] 22)) (some ⟨w.heap.size, 0, none⟩) [x] := by
  refine NS.of_str fun j hj => ?_
  rw [Lib.cell_of_heap (heap_alloc_new w _)]
  match j, hj with
  | 0, _ => rfl
theorem is_one (w : World) (ng : Bool) (t : ByteArray) : IS (w.alloc (.cells #[.bool ng, .string t] 32)) (some ⟨w.heap.size, 0, none⟩) [(ng, t)] := by
  intro k hk
  match k, hk with
  | 0, _ => exact ⟨_, _, rfl, by rw [Lib.cell_of_heap (heap_alloc_new w _)]; rfl, by rw [Lib.cell_of_heap (heap_alloc_new w _)]; rfl⟩
theorem gExp_any (M O x : ByteArray) (ng : Bool) (t : ByteArray) (w : World) :
    Calls Tryz.prog 20 #[.agg #[.string M, .string O], .string x, .agg #[.bool ng, .string t]] w fun e w' => e = .returned (.tuple #[.string (gpS M O [x] [(ng, t)]), .int .i64 (gpE M O [x] [(ng, t)])]) ∧ Below w.heap.size w w' := by
  have HP : Hid (∀ w ao bo, NS w ao [x] → IS w bo [(ng, t)] → Calls Tryz.prog 23 #[.agg #[.string M, .string O], .slice ao 1 1, .slice bo 1 1] w fun e w' => e = .returned (.tuple #[.string (gpS M O [x] [(ng, t)]), .int .i64 (gpE M O [x] [(ng, t)])]) ∧ Below w.heap.size w w') :=
    fun w ao bo a b => gProduct_any M O ao bo 1 1 1 1 [x] [(ng, t)] w a b rfl rfl (by omega) (by omega)
  obtain ⟨S, hS⟩ : ∃ S, gpS M O [x] [(ng, t)] = S := ⟨_, rfl⟩
  obtain ⟨E, hE⟩ : ∃ E, gpE M O [x] [(ng, t)] = E := ⟨_, rfl⟩
  rw [hS, hE] at HP ⊢
  clear hS hE
  go_enter Tryz.func20, Tryz.ntmps20
  go_wp2_with fail
  have hb : Below w.heap.size w ((((w.alloc (.cells #[.string M, .string O] 24)).alloc (.cells #[.bool ng, .string t] 32)).alloc (.cells #[.string x] 22)).alloc (.cells #[.bool ng, .string t] 32)) :=
    ((((Below.refl _ w).alloc (Nat.le_refl _) _).alloc (by simp) _).alloc (by simp; omega) _).alloc (by simp; omega) _
  have hN := (ns_one ((w.alloc (.cells #[.string M, .string O] 24)).alloc (.cells #[.bool ng, .string t] 32)) x).below ((Below.refl _ _).alloc (Nat.le_refl _) (.cells #[.bool ng, .string t] 32)) (Nat.le_refl _)
  have hI := is_one (((w.alloc (.cells #[.string M, .string O] 24)).alloc (.cells #[.bool ng, .string t] 32)).alloc (.cells #[.string x] 22)) ng t
  simp only [World.size_alloc] at hN hI
  generalize World.alloc _ _ = w1 at hb hN hI ⊢
  refine (HP.out _ _ _ hN hI).mono ?_; rintro e w2 ⟨rfl, b2⟩
  go_wp2_with fail
  go_ret2
  exact ⟨rfl, hb.trans (b2.mono hb.size)⟩
end Go.Proofs.YtcjbbneiobnmkaaGreat

/- power: NewTable. -/
namespace Go.Proofs.YtcjbbneiobnmkaaGreat
open Go.RowKit Num
set_option maxRecDepth 20000
set_option linter.unusedVariables false
/-- row i of a table -/
def tnum (m b i d : Nat) : Nat := b ^ (16 ^ i * d) % m
def trow (m b i k : Nat) : List ByteArray := (List.range k).map fun d => enc (tnum m b i d)
theorem trow_len (m b i k : Nat) : (trow m b i k).length = k := by simp [trow]
theorem trow_succ (m b i k : Nat) : trow m b i (k + 1) = trow m b i k ++ [enc (tnum m b i k)] := by unfold trow; rw [List.range_succ, List.map_append]; rfl
theorem trow_get {m b i k d : Nat} (h : d < (trow m b i k).length) : (trow m b i k)[d] = enc (tnum m b i d) := by simp [trow]
theorem tnum_zero {m b i : Nat} (h : 2 ≤ m) : tnum m b i 0 = 1 := by unfold tnum; rw [Nat.mul_zero, Nat.pow_zero, Nat.mod_eq_of_lt (by omega)]
theorem tnum_next (m b i d : Nat) : tnum m b i d * tnum m b i 1 % m = tnum m b i (d + 1) := by
  unfold tnum
  rw [← Nat.mul_mod, ← Nat.pow_add, Nat.mul_add]
theorem tnum_top (m b i : Nat) : tnum m b i 16 = tnum m b (i + 1) 1 := by
  unfold tnum
  rw [Nat.mul_one, Nat.pow_succ]
theorem tnum_lt {m b i d : Nat} (h : 2 ≤ m) : tnum m b i d < m := Nat.mod_lt _ (by omega)
/-- the error of NewTable -/
def ntE (M O s : ByteArray) (bits : Int) : Int := if validB s = true then (if gE M O = 0 then (if bits < 0 ∨ 1024 < bits then 2 else if elN (nv M) (nv O) (nv s) = true then 0 else 13) else gE M O) else 3
theorem info_tab : (Tryz.prog.info? 46).map (·.size) = some 3 := by kernel_rfl
theorem info_rows : (Tryz.prog.info? 38).map (fun i => (i.zero, i.size, i.bytes)) = some (some (.slice none 0 0), 1, 24) := by kernel_rfl
/-- a variable of type Table -/
def TX (W : World) (b : Nat) (M : ByteArray) (n : Int) (v : Value) : Prop := W.heap[b]? = some (.cells #[.string M, .int .i64 n, v] 46 (0, 0))
section
variable {W W' : World} {b : Nat} {M : ByteArray} {n : Int} {v : Value}
theorem TX.lt (h : TX W b M n v) : b < W.heap.size := (Array.getElem?_eq_some_iff.1 h).1
theorem TX.c0 (h : TX W b M n v) : W.cell? ⟨b, 0, none⟩ = some (.string M) := by rw [Lib.cell_of_heap h]; rfl
theorem TX.c1 (h : TX W b M n v) : W.cell? ⟨b, 1, none⟩ = some (.int .i64 n) := by rw [Lib.cell_of_heap h]; rfl
theorem TX.c2 (h : TX W b M n v) : W.cell? ⟨b, 2, none⟩ = some v := by rw [Lib.cell_of_heap h]; rfl
theorem TX.f (h : TX W b M n v) (j : Nat) : W.frozen? ⟨b, j, none⟩ = false := Lib.frozen_of_heap h j
theorem TX.new (W : World) (M : ByteArray) (n : Int) (v : Value) : TX (W.alloc (.cells #[.string M, .int .i64 n, v] 46)) W.heap.size M n v := heap_alloc_new W _
theorem TX.alloc (h : TX W b M n v) (o : Obj) : TX (W.alloc o) b M n v := (Below.heap_alloc W o b h.lt).trans h
theorem TX.below {K : Nat} (h : TX W b M n v) (hb : Below K W W') (hB : b < K) : TX W' b M n v := (hb.block b hB).trans h
theorem TX.set2 (h : TX W b M n v) (u : Value) : TX (W.setCell ⟨b, 2, none⟩ u) b M n u := put1 h
theorem put3 {a0 a1 a2 v0 v1 v2 : Value} {t : TypeId} (h : W.heap[b]? = some (.cells #[a0, a1, a2] t (0, 0))) :
    (((W.setCell ⟨b, 0, none⟩ v0).setCell ⟨b, 1, none⟩ v1).setCell ⟨b, 2, none⟩ v2).heap[b]? = some (.cells #[v0, v1, v2] t (0, 0)) := put1 (put1 (put1 h))
theorem bodyPost_tab {fn : Func} {R : Ending → World → Prop} {p u : Tmp} {a : Act} {v0 v1 v2 v : Value} (h : fn.results = #[.cell p 46, .tmp u]) (hp : a.tmps.getD p undef = .pointer (some ⟨b, 0, none⟩)) (hu : a.tmps.getD u undef = v)
    (hb : W.heap[b]? = some (.cells #[v0, v1, v2] 46 (0, 0))) (hd : a.defers = []) (hR : R (.returned (.tuple #[.agg #[v0, v1, v2], v])) W) : bodyPost Tryz.prog fn R Exit.ret a W := by
  refine bodyPost_ret (v := .tuple #[.agg #[v0, v1, v2], v]) (w := W) ?_ hd hR
  rw [results_cell_tmp h, hp, hu]
  simp [asAddr, run_loadVar_row W b _ _ _ (0, 0) _ hb Tryz.underlying46 rfl info_tab]
end
/-- the boxes of NewTable -/
theorem boxes (w : World) (M O : ByteArray) : ∃ w1, (w.alloc (.cells #[.string M, .string O] 24)).alloc (.cells #[.string ⟨#[]⟩, .int .i64 0, .slice none 0 0] 46) = w1 ∧ GB w1 w.heap.size M O ∧ TX w1 (w.heap.size + 1) ⟨#[]⟩ 0 (.slice none 0 0) ∧ Below w.heap.size w w1 ∧ w1.heap.size = w.heap.size + 2 := by
  have h := TX.new (w.alloc (.cells #[.string M, .string O] 24)) ⟨#[]⟩ 0 (.slice none 0 0)
  rw [World.size_alloc] at h
  exact ⟨_, rfl, (GB.new w M O).alloc _, h, ((Below.refl _ w).alloc (Nat.le_refl _) _).alloc (by simp) _, by simp⟩
set_option maxHeartbeats 4000000 in
theorem newTable_bad (M O s : ByteArray) (bits : Int) (E : Int) (w : World) (hE : ntE M O s bits = E) (h0 : E ≠ 0) :
    Calls Tryz.prog 25 #[.agg #[.string M, .string O], .string s, .int .i64 bits] w fun e w' => e = .returned (.tuple #[.agg #[.string ⟨#[]⟩, .int .i64 0, .slice none 0 0], .int .i64 E]) ∧ Below w.heap.size w w' := by
  obtain ⟨w1, hw1, hG, hT, hb, hz⟩ := boxes w M O
  by_cases hv : validB s = true
  rotate_left
  · have hv' : validB s = false := by simpa using hv
    obtain rfl : E = 3 := by rw [← hE, ntE, if_neg hv]
    have HV := Lib.hid hv'
    clear hv hv' hE h0
    go_enter Tryz.func25, Tryz.ntmps25
    go_wp2_with fail
    refine (Valid_any s _).mono ?_; rw [HV.out]; rintro e w2 ⟨rfl, rfl⟩
    have f0 := hT.f 0
    have f1 := hT.f 1
    have f2 := hT.f 2
    have c0 := hT.c0
    have c1 := hT.c1
    have c2 := hT.c2
    go_wp2_with fail
    refine bodyPost_tab rfl rfl rfl (put3 hT) rfl ⟨rfl, ?_⟩
    exact ((hb.setCell (p := ⟨w.heap.size + 1, 0, none⟩) (by simp) _).setCell (p := ⟨w.heap.size + 1, 1, none⟩) (by simp) _).setCell (p := ⟨w.heap.size + 1, 2, none⟩) (by simp) _
  have HV := Lib.hid hv
  have hE' : (if gE M O = 0 then (if bits < 0 ∨ 1024 < bits then 2 else if elN (nv M) (nv O) (nv s) = true then 0 else 13) else gE M O) = E := by rw [← hE, ntE, if_pos hv]
  clear hE
  by_cases hg : gE M O = 0
  rotate_left
  · rw [if_neg hg] at hE'
    have HG := Lib.hid hE'
    have hk : E = 3 ∨ E = 13 := by rw [← hE']; exact (gE_cases M O).resolve_left hg
    clear hv hE' hg h0
    rcases hk with rfl | rfl
    all_goals
      go_enter Tryz.func25, Tryz.ntmps25
      go_wp2_with fail
      refine (Valid_any s _).mono ?_; rw [HV.out]; rintro e w2 ⟨rfl, rfl⟩
      have d0 := hG.c0
      have d1 := hG.c1
      go_wp2_with fail
      refine (gCheck_any M O _).mono ?_; rw [HG.out]; rintro e w2 ⟨rfl, b2⟩
      have hT2 := hT.below b2 hT.lt
      have hG2 := hG.below b2 hG.lt
      have hb2 := hb.trans (b2.mono hb.size)
      clear d0 d1
      have f0 := hT2.f 0
      have f1 := hT2.f 1
      have f2 := hT2.f 2
      have c0 := hT2.c0
      have c1 := hT2.c1
      have c2 := hT2.c2
      have d0 := hG2.c0
      have d1 := hG2.c1
      go_wp2_with fail
      refine bodyPost_tab rfl rfl rfl (put3 hT2) rfl ⟨rfl, ?_⟩
      exact ((hb2.setCell (p := ⟨w.heap.size + 1, 0, none⟩) (by simp) _).setCell (p := ⟨w.heap.size + 1, 1, none⟩) (by simp) _).setCell (p := ⟨w.heap.size + 1, 2, none⟩) (by simp) _
  rw [if_pos hg] at hE'
  have HG := Lib.hid hg
  by_cases hr : bits < 0 ∨ 1024 < bits
  · rw [if_pos hr] at hE'
    obtain rfl : E = 2 := hE'.symm
    clear hv hE' hg h0
    rcases hr with hr | hr
    all_goals
      have u1 : decide (bits < 0) = decide (bits < 0) := rfl
      go_enter Tryz.func25, Tryz.ntmps25
      go_wp2_with fail
      refine (Valid_any s _).mono ?_; rw [HV.out]; rintro e w2 ⟨rfl, rfl⟩
      have d0 := hG.c0
      have d1 := hG.c1
      go_wp2_with fail
      refine (gCheck_any M O _).mono ?_; rw [HG.out]; rintro e w2 ⟨rfl, b2⟩
      have hT2 := hT.below b2 hT.lt
      have hG2 := hG.below b2 hG.lt
      have hb2 := hb.trans (b2.mono hb.size)
      clear d0 d1
      have f0 := hT2.f 0
      have f1 := hT2.f 1
      have f2 := hT2.f 2
      have c0 := hT2.c0
      have c1 := hT2.c1
      have c2 := hT2.c2
      have d0 := hG2.c0
      have d1 := hG2.c1
      go_wp2_with fail
      all_goals
        refine bodyPost_tab rfl rfl rfl (put3 hT2) rfl ⟨rfl, ?_⟩
        exact ((hb2.setCell (p := ⟨w.heap.size + 1, 0, none⟩) (by simp) _).setCell (p := ⟨w.heap.size + 1, 1, none⟩) (by simp) _).setCell (p := ⟨w.heap.size + 1, 2, none⟩) (by simp) _
  · rw [if_neg hr] at hE'
    have hel : elN (nv M) (nv O) (nv s) = false := by
      cases h : elN (nv M) (nv O) (nv s)
      · rfl
      · rw [if_pos h] at hE'; exact absurd hE'.symm h0
    rw [if_neg (by rw [hel]; simp)] at hE'
    obtain rfl : E = 13 := hE'.symm
    have r1 : 0 ≤ bits := by omega
    have r2 : bits ≤ 1024 := by omega
    have HH := Lib.hid (show (validB s && elN (nv M) (nv O) (nv s)) = false by rw [hel, Bool.and_false])
    clear hv hE' hg h0 hr hel
    go_enter Tryz.func25, Tryz.ntmps25
    go_wp2_with fail
    refine (Valid_any s _).mono ?_; rw [HV.out]; rintro e w2 ⟨rfl, rfl⟩
    have d0 := hG.c0
    have d1 := hG.c1
    go_wp2_with fail
    refine (gCheck_any M O _).mono ?_; rw [HG.out]; rintro e w2 ⟨rfl, b2⟩
    have hT2 := hT.below b2 hT.lt
    have hG2 := hG.below b2 hG.lt
    have hb2 := hb.trans (b2.mono hb.size)
    clear d0 d1
    have f0 := hT2.f 0
    have f1 := hT2.f 1
    have f2 := hT2.f 2
    have c0 := hT2.c0
    have c1 := hT2.c1
    have c2 := hT2.c2
    have d0 := hG2.c0
    have d1 := hG2.c1
    go_wp2_with fail
    refine (has_any M O s _ HG.out).mono ?_; rw [HH.out]; rintro e w3 ⟨rfl, b3⟩
    replace hT2 := hT2.below b3 hT2.lt
    replace hG2 := hG2.below b3 hG2.lt
    replace hb2 := hb2.trans (b3.mono hb2.size)
    clear f0 f1 f2 c0 c1 c2 d0 d1
    have f0 := hT2.f 0
    have f1 := hT2.f 1
    have f2 := hT2.f 2
    have c0 := hT2.c0
    have c1 := hT2.c1
    have c2 := hT2.c2
    have d0 := hG2.c0
    have d1 := hG2.c1
    go_wp2_with fail
    refine bodyPost_tab rfl rfl rfl (put3 hT2) rfl ⟨rfl, ?_⟩
    exact ((hb2.setCell (p := ⟨w.heap.size + 1, 0, none⟩) (by simp) _).setCell (p := ⟨w.heap.size + 1, 1, none⟩) (by simp) _).setCell (p := ⟨w.heap.size + 1, 2, none⟩) (by simp) _
/-- the rows of a table -/
def TbAt (W : World) (v : Value) (m b n : Nat) : Prop := (n = 0 ∧ v = .slice none 0 0) ∨ ∃ g c, v = .slice (some ⟨g, 0, none⟩) n c ∧ g < W.heap.size ∧ ∀ i, i < n → ∃ h c', W.cell? ⟨g, i, none⟩ = some (.slice (some ⟨h, 0, none⟩) 16 c') ∧ h < W.heap.size ∧ StrAt W h (trow m b i 16)
theorem TbAt.below {W W' : World} {v : Value} {m b n : Nat} (h : TbAt W v m b n) (hb : Below W.heap.size W W') : TbAt W' v m b n := by
  rcases h with h | ⟨g, c, h1, h2, h3⟩
  · exact .inl h
  · refine .inr ⟨g, c, h1, Nat.lt_of_lt_of_le h2 hb.size, fun i hi => ?_⟩
    obtain ⟨q, c', e1, e2, e3⟩ := h3 i hi
    exact ⟨q, c', (hb.cell (p := ⟨g, i, none⟩) h2).trans e1, Nat.lt_of_lt_of_le e2 hb.size, e3.below hb e2⟩
/-- what NewTable leaves -/
def NTP (M : ByteArray) (bits m b n : Nat) (w : World) (e : Ending) (w' : World) : Prop := ∃ v, e = .returned (.tuple #[.agg #[.string M, .int .i64 (bits : Int), v], .int .i64 0]) ∧ TbAt w' v m b n ∧ Below w.heap.size w w'
/-- the rows so far: slices in a row that is ours -/
structure Rws (W : World) (K : Nat) (v : Value) (m b i : Nat) (vs : List Value) : Prop where
  own : W.ownsRow K 38 1 v i vs
  row : ∀ j, j < i → ∃ g c cur, vs[j]? = some (.slice (some ⟨g, 0, none⟩) 16 c) ∧ W.heap[g]? = some (.cells cur 22 (0, 0)) ∧ StrAt W g (trow m b j 16)
theorem own_keep {w w' : World} {K e size n : Nat} {v : Value} {xs : List Value} (hb : Below w.heap.size w w') (h : w.ownsRow K e size v n xs) : w'.ownsRow K e size v n xs := by
  rcases h with ⟨h0, h | ⟨g, cap, cur, h1, h2, h3, h4⟩⟩
  · exact ⟨h0, .inl h⟩
  · exact ⟨h0, .inr ⟨g, cap, cur, h1, h2, (hb.block g (Array.getElem?_eq_some_iff.1 h3).1).trans h3, h4⟩⟩
theorem Rws.below {W W' : World} {K : Nat} {v : Value} {m b i : Nat} {vs : List Value} (h : Rws W K v m b i vs) (hb : Below W.heap.size W W') : Rws W' K v m b i vs :=
  ⟨own_keep hb h.own, fun j hj => by
    obtain ⟨g, c, cur, h1, h2, h3⟩ := h.row j hj
    have hl := (Array.getElem?_eq_some_iff.1 h2).1
    exact ⟨g, c, cur, h1, (hb.block g hl).trans h2, h3.below hb hl⟩⟩
theorem own_one (w : World) (s : ByteArray) : (w.alloc (.cells #[.string s] 22)).ownsRow w.heap.size 22 1 (.slice (some ⟨w.heap.size, 0, none⟩) 1 1) 1 [.string s] :=
  ⟨rfl, .inr ⟨_, 1, #[.string s], rfl, Nat.le_refl _, heap_alloc_new w _, Nat.le_refl _, by unfold maxLen; omega, rfl, rfl⟩⟩
theorem own_ge {w : World} {K e size n : Nat} {v : Value} {xs : List Value} (h : w.ownsRow K e size v n xs) : ∀ k, v.ownBlock = some k → K ≤ k ∧ ∃ cur, w.heap[k]? = some (.cells cur e (0, 0)) := by
  intro k hk
  rcases h.2 with ⟨h1, _⟩ | ⟨g, cap, cur, h1, h2, h3, _⟩
  · subst h1; cases hk
  · subst h1; cases hk; exact ⟨h2, cur, h3⟩
/-- a row more -/
theorem Rws.push {W w' : World} {p : Nat} {M : ByteArray} {n : Int} {v v' : Value} {m b i g cap : Nat} {vs : List Value} {o : Obj} (hR : Rws W (p + 1) v m b i vs) (hst : StrAt W g (trow m b i 16)) (hg : ∃ cur, W.heap[g]? = some (.cells cur 22 (0, 0))) (hX : TX W p M n v)
    (hown : w'.ownsRow (p + 1) 38 1 v' (i + 1) (vs ++ [.slice (some ⟨g, 0, none⟩) 16 cap])) (hgrow : (W.alloc o).grownBy w' v.ownBlock) :
    TX w' p M n v ∧ Rws w' (p + 1) v' m b (i + 1) (vs ++ [.slice (some ⟨g, 0, none⟩) 16 cap]) ∧ StrAt w' g (trow m b i 16) := by
  have hkeep : ∀ (k : Nat) (cur : Array Value), W.heap[k]? = some (.cells cur 22 (0, 0)) → w'.heap[k]? = some (.cells cur 22 (0, 0)) := fun k cur hk => by
    have hl := (Array.getElem?_eq_some_iff.1 hk).1
    rw [hgrow.block k (by simp; omega) (fun e => by
      obtain ⟨_, cur', h2⟩ := own_ge hR.own k e.symm
      rw [hk] at h2
      injection h2 with h2
      injection h2 with _ h2 _
      revert h2; decide), Below.heap_alloc _ _ _ hl]
    exact hk
  have hlen : vs.length = i := by have := hR.own.1; omega
  refine ⟨?_, ⟨hown, fun j hj => ?_⟩, fun j hj => ?_⟩
  · have hl := hX.lt
    unfold TX
    rw [hgrow.block p (by simp; omega) (fun e => by have := (own_ge hR.own p e.symm).1; omega), Below.heap_alloc _ _ _ hl]
    exact hX
  · rcases Nat.lt_or_ge j i with h | h
    · obtain ⟨q, c, cur, h1, h2, h3⟩ := hR.row j h
      refine ⟨q, c, cur, by rw [List.getElem?_append_left (by omega)]; exact h1, hkeep q cur h2, fun k hk => ?_⟩
      have := h3 k hk
      unfold World.cell? at this ⊢
      rw [show w'.heap[(⟨q, k, none⟩ : Addr).block]? = _ from hkeep q cur h2]
      rw [show W.heap[(⟨q, k, none⟩ : Addr).block]? = _ from h2] at this
      exact this
    · obtain rfl : j = i := by omega
      obtain ⟨cur, hg⟩ := hg
      refine ⟨g, cap, cur, by rw [List.getElem?_append_right (by omega), hlen]; simp, hkeep g cur hg, fun k hk => ?_⟩
      have := hst k hk
      unfold World.cell? at this ⊢
      rw [show w'.heap[(⟨g, k, none⟩ : Addr).block]? = _ from hkeep g cur hg]
      rw [show W.heap[(⟨g, k, none⟩ : Addr).block]? = _ from hg] at this
      exact this
  · obtain ⟨cur, hg⟩ := hg
    have := hst j hj
    unfold World.cell? at this ⊢
    rw [show w'.heap[(⟨g, j, none⟩ : Addr).block]? = _ from hkeep g cur hg]
    rw [show W.heap[(⟨g, j, none⟩ : Addr).block]? = _ from hg] at this
    exact this
theorem Rws.set {W : World} {p : Nat} {M : ByteArray} {n : Int} {v u x : Value} {m b i : Nat} {vs : List Value} (h : Rws W (p + 1) v m b i vs) (hX : TX W p M n u) : Rws (W.setCell ⟨p, 2, none⟩ x) (p + 1) v m b i vs := by
  have hne : ∀ k, k ≠ p → (W.setCell ⟨p, 2, none⟩ x).heap[k]? = W.heap[k]? := fun k hk => Below.heap_setCell _ _ _ _ hk
  refine ⟨?_, fun j hj => ?_⟩
  · rcases h.own with ⟨h0, h1 | ⟨g, cap, cur, h1, h2, h3, h4⟩⟩
    · exact ⟨h0, .inl h1⟩
    · exact ⟨h0, .inr ⟨g, cap, cur, h1, h2, (hne g (by omega)).trans h3, h4⟩⟩
  · obtain ⟨g, c, cur, h1, h2, h3⟩ := h.row j hj
    have hgp : g ≠ p := fun e => by
      subst e
      rw [show W.heap[g]? = _ from hX] at h2
      injection h2 with h2
      injection h2 with _ h2 _
      revert h2; decide
    refine ⟨g, c, cur, h1, (hne g hgp).trans h2, fun k hk => ?_⟩
    exact cell_set_ne (h3 k hk) hgp
theorem Rws.tb {W W' : World} {p r : Nat} {v : Value} {m b n : Nat} {vs : List Value} {cs : Array Value} (h : Rws W (p + 1) v m b n vs) (hr : W.heap[r]? = some (.cells cs 46 (0, 0))) (hrp : r ≤ p) (hs : W.heap.size ≤ W'.heap.size) (hne : ∀ k, k ≠ r → W'.heap[k]? = W.heap[k]?) : TbAt W' v m b n := by
  have hh := h.own
  rcases h.own.2 with ⟨h1, h2⟩ | ⟨g, cap, cur, rfl, h2, h3, _⟩
  · exact .inl ⟨h2, h1⟩
  · have hgr : g ≠ r := by omega
    refine .inr ⟨g, cap, rfl, Nat.lt_of_lt_of_le (Array.getElem?_eq_some_iff.1 h3).1 hs, fun i hi => ?_⟩
    obtain ⟨q, c, cur', e1, e2, e3⟩ := h.row i hi
    have hqr : q ≠ r := fun e => by
      subst e
      rw [hr] at e2
      injection e2 with e2
      injection e2 with _ e2 _
      revert e2; decide
    have hc := hh.cells (g := g) rfl i _ e1
    rw [addr_add] at hc
    refine ⟨q, c, ?_, Nat.lt_of_lt_of_le (Array.getElem?_eq_some_iff.1 e2).1 hs, fun k hk => ?_⟩
    · rw [← hc]
      unfold World.cell?
      rw [show W'.heap[(⟨g, i, none⟩ : Addr).block]? = _ from hne g hgr]
    · rw [← e3 k hk]
      unfold World.cell?
      rw [show W'.heap[(⟨q, k, none⟩ : Addr).block]? = _ from hne q hqr]
theorem one_cellV {W : World} {g : Nat} {v : Value} (h : W.cell? ⟨g, 0, none⟩ = some v) : ∀ j u, [v][j]? = some u → W.cell? ((⟨g, 0, none⟩ : Addr).add j) = some u := by
  intro j u hj
  cases j with
  | zero => simp at hj; subst hj; exact h
  | succ j => simp at hj
theorem keepM {w1 w2 w3 : World} {p g d : Nat} {M s : ByteArray} (h : w2.cell? ⟨p, 0, none⟩ = some (.string M) ∧ w2.cell? ⟨g, d, none⟩ = some (.string s) ∧ Below w1.heap.size w1 w2) (b : Below w2.heap.size w2 w3) :
    w3.cell? ⟨p, 0, none⟩ = some (.string M) ∧ w3.cell? ⟨g, d, none⟩ = some (.string s) ∧ Below w1.heap.size w1 w3 :=
  ⟨cellB_below h.1 b (Nat.le_refl _), cellB_below h.2.1 b (Nat.le_refl _), h.2.2.trans (b.mono h.2.2.size)⟩
set_option maxHeartbeats 8000000 in
theorem newTable_ok (M O s : ByteArray) (bits : Nat) (w : World) (h0 : ntE M O s bits = 0) :
    Calls Tryz.prog 25 #[.agg #[.string M, .string O], .string s, .int .i64 (bits : Int)] w (NTP M bits (nv M) (nv s) ((bits + 3) / 4) w) := by
  obtain ⟨w1, hw1, hG, hT, hb, hz⟩ := boxes w M O
  have hv : validB s = true := by
    cases h : validB s
    · rw [ntE, if_neg (by rw [h]; simp)] at h0; cases h0
    · rfl
  rw [ntE, if_pos hv] at h0
  have hg : gE M O = 0 := by
    by_cases h : gE M O = 0
    · exact h
    · rw [if_neg h] at h0; exact absurd h0 h
  rw [if_pos hg] at h0
  have hr : bits ≤ 1024 := by
    by_cases h : (bits : Int) < 0 ∨ 1024 < (bits : Int)
    · rw [if_pos h] at h0; cases h0
    · omega
  rw [if_neg (by omega)] at h0
  have hel : elN (nv M) (nv O) (nv s) = true := by
    cases h : elN (nv M) (nv O) (nv s)
    · rw [if_neg (by rw [h]; simp)] at h0; cases h0
    · rfl
  obtain ⟨hM, hO, hm2, _⟩ := gE_ok hg
  have hs := isN_of_valid hv
  have hlt := el_lt hel
  have HV := Lib.hid hv
  have HG := Lib.hid hg
  have HH := Lib.hid (show (validB s && elN (nv M) (nv O) (nv s)) = true by rw [hv, hel]; rfl)
  obtain ⟨m, hm⟩ : ∃ m, nv M = m := ⟨_, rfl⟩
  obtain ⟨b, hb'⟩ : ∃ b, nv s = b := ⟨_, rfl⟩
  rw [hm] at hM hm2 hlt ⊢
  rw [hb'] at hs hlt ⊢
  have e0 : s = enc (tnum m b 0 1) := by rw [hs.eq, tnum]; simp [Nat.mod_eq_of_lt hlt]
  have HM := Lib.hid hM
  have H2 := Lib.hid hm2
  have HS0 := Lib.hid e0
  clear hv hg h0 hel hM hO hm2 hs hlt hm hb' e0
  go_enter Tryz.func25, Tryz.ntmps25
  go_wp2_with fail
  refine (Valid_any s _).mono ?_; rw [HV.out]; rintro e w2 ⟨rfl, rfl⟩
  have d0 := hG.c0
  have d1 := hG.c1
  go_wp2_with fail
  refine (gCheck_any M O _).mono ?_; rw [HG.out]; rintro e w2 ⟨rfl, b2⟩
  have hT2 := hT.below b2 hT.lt
  have hG2 := hG.below b2 hG.lt
  have hb2 := hb.trans (b2.mono hb.size)
  clear d0 d1
  have d0 := hG2.c0
  have d1 := hG2.c1
  have r1 : (0 : Int) ≤ (bits : Int) := by omega
  have r2 : (bits : Int) ≤ 1024 := by omega
  go_wp2_with fail
  refine (has_any M O s _ HG.out).mono ?_; rw [HH.out]; rintro e w3 ⟨rfl, b3⟩
  replace hT2 := hT2.below b3 hT2.lt
  replace hG2 := hG2.below b3 hG2.lt
  replace hb2 := hb2.trans (b3.mono hb2.size)
  clear d0 d1
  have d0 := hG2.c0
  go_wp2_with fail
  have hX := TX.new w3 M (bits : Int) (.slice none 0 0)
  have hG3 := hG2.alloc (.cells #[.string M, .int .i64 (bits : Int), .slice none 0 0] 46)
  have hT3 := hT2.alloc (.cells #[.string M, .int .i64 (bits : Int), .slice none 0 0] 46)
  have hb3 := hb2.alloc hb2.size (.cells #[.string M, .int .i64 (bits : Int), .slice none 0 0] 46)
  have hz3 : (w3.alloc (.cells #[.string M, .int .i64 (bits : Int), .slice none 0 0] 46)).heap.size = w3.heap.size + 1 := by simp
  have q1 : w.heap.size + 1 < w3.heap.size := hT2.lt
  obtain ⟨cnt, hcnt⟩ : ∃ c, (bits + 3) / 4 = c := ⟨_, rfl⟩
  have hci : ((bits : Int) + 3) / 4 = (cnt : Int) := by omega
  have hc256 : cnt ≤ 256 := by omega
  rw [hci, hcnt]
  have HCNT := Lib.hid hcnt
  clear hG2 hT2 hb2 b2 b3 hw1 hz hG hT hb d0 HV HG HH hci hcnt
  generalize w3.heap.size = p at hX hG3 hT3 hb3 hz3 q1 ⊢
  generalize w3.alloc _ = w4 at hX hG3 hT3 hb3 hz3 ⊢
  have hM := HM.out
  obtain ⟨i0, hi, hy0, hy1, hy2⟩ := info_parts info_nat
  obtain ⟨i1, hj, hx0, hx1, hx2⟩ := info_parts info_rows
  have HINF := Lib.hid (And.intro (And.intro hi (And.intro hy0 (And.intro hy1 hy2))) (And.intro hj (And.intro hx0 (And.intro hx1 hx2))))
  clear hi hy0 hy1 hy2 hj hx0 hx1 hx2
  go_loopw [1, 42] (fun vb vi wr => ∃ i : Nat, i ≤ cnt ∧ vi = .int .i64 (i : Int) ∧ vb = .string (enc (tnum m b i 1)) ∧ ∃ v vs, TX wr p M (bits : Int) v ∧ Hid (Rws wr (p + 1) v m b i vs) ∧ Below p w4 wr) (fun _ vi _ => cnt - (intOf vi).toNat)
  case atStart => exact ⟨0, by omega, rfl, by rw [HS0.out], _, [], hX, ⟨World.ownsRow_nil _ _ _ _, fun j hj => by omega⟩, Below.refl _ _⟩
  case round =>
    clear hX
    obtain ⟨i, hi, rfl, rfl, v, vs, hX, hR, hbr⟩ := hrel
    have hG4 := hG3.below hbr (by omega)
    have hT4 := hT3.below hbr q1
    have HB1 := Lib.hid (IsN.mk' (mod_le (a := b ^ (16 ^ i * 1)) HM.out (by have := H2.out; omega)))
    by_cases hlt : i < cnt
    · go_wp2_with fail
      refine (of1 _).mono ?_; rintro e w5 ⟨rfl, b5⟩
      have X5 := hX.below b5 hX.lt
      have HR5 := Lib.hid (hR.out.below b5)
      have G5 := hG4.below b5 hG4.lt
      have T5 := hT4.below b5 hT4.lt
      have hb5 := hbr.trans (b5.mono (by have := hbr.size; omega))
      clear hX hR hG4 hT4 b5 hbr
      go_wp2_with fail
      have hL := own_one w5 (enc 1)
      have hK6 : p < w5.heap.size := X5.lt
      have hA := (Below.refl _ w5).alloc (Nat.le_refl _) (.cells #[.string (enc 1)] 22)
      have X6 := X5.below hA X5.lt
      have HR6 : Hid (∀ W', Below w5.heap.size (w5.alloc (.cells #[.string (enc 1)] 22)) W' → Rws W' (p + 1) v m b i vs) := fun W' h => HR5.out.below (hA.trans h)
      have G6 := G5.below hA G5.lt
      have T6 := T5.below hA T5.lt
      have hb6 := hb5.trans (hA.mono (by omega))
      have z6 : (w5.alloc (.cells #[.string (enc 1)] 22)).heap.size = w5.heap.size + 1 := by simp
      clear X5 HR5 G5 T5 hb5 hA
      generalize w5.heap.size = K at hL hK6 z6 HR6 ⊢
      generalize w5.alloc _ = w6 at hL X6 HR6 G6 T6 hb6 z6 ⊢
      have hL0 : w6.ownsRow K 22 1 (.slice (some ⟨K, 0, none⟩) 1 1) 1 ((trow m b i 1).map Value.string) := by
        have e : (trow m b i 1).map Value.string = [.string (enc 1)] := by
          show [Value.string (enc (tnum m b i 0))] = _
          rw [tnum_zero H2.out]
        rw [e]; exact hL
      clear hL
      go_loopw [10, 46] (fun vl vk wr => ∃ d : Nat, d ≤ 15 ∧ vk = .int .i64 (d : Int) ∧ Hid (wr.ownsRow K 22 1 vl (d + 1) ((trow m b i (d + 1)).map Value.string)) ∧ Below K w6 wr) (fun _ vk _ => 15 - (intOf vk).toNat)
      case atStart => exact ⟨0, by omega, rfl, hL0, Below.refl _ _⟩
      case round =>
        clear hL0
        obtain ⟨d, hd, rfl, hL, hbr⟩ := hrel
        obtain ⟨g, cap, rfl, hKg, hcap, hst⟩ := own_str hL.out (by omega)
        have hG7 := G6.below hbr (by omega)
        have zr := hbr.size
        by_cases hd15 : d < 15
        · have s1 : wr.cell? ⟨g, d, none⟩ = some (.string (enc (tnum m b i d))) := by
            rw [hst d (by rw [trow_len]; omega), trow_get]
          have d0 := hG7.c0
          have k1 : IntKind.i64.wrap (((d + 1 : Nat) : Int) - 1) = (d : Int) := by rw [IntKind.wrap_i64]; omega
          have k2 : IntKind.i64.wrap ((d : Int) + 1 - 1) = (d : Int) := by rw [IntKind.wrap_i64]; omega
          have k3 : (0 : Int) ≤ (d : Int) := by omega
          have k4 : (d : Int) < (d : Int) + 1 := by omega
          have k5 : IntKind.i64.wrap (d : Int) = (d : Int) := by rw [IntKind.wrap_i64]; omega
          have k6 : ((d : Int)).toNat = d := by omega
          have k7 : d < d + 1 := by omega
          have HMU : Hid (∀ w, Calls Tryz.prog 63 #[.string (enc (tnum m b i d)), .string (enc (tnum m b i 1)), .string M] w fun e w' => e = .returned (.tuple #[.string (enc (tnum m b i (d + 1))), .int .i64 0]) ∧ Below w.heap.size w w') := fun w => by
            have h := ModMul_ok (enc (tnum m b i d)) (enc (tnum m b i 1)) M (tnum m b i d) (tnum m b i 1) m w (IsN.mk' (mod_le HM.out (by have := H2.out; omega))) HB1.out HM.out (by have := H2.out; omega)
            rw [tnum_next] at h
            exact h
          go_wp2_with fail
          go_region_held3 (fun w' => w'.cell? ⟨w.heap.size, 0, none⟩ = some (.string M) ∧ w'.cell? ⟨g, d, none⟩ = some (.string (enc (tnum m b i d))) ∧ Below wr.heap.size wr w')
            (first | exact ⟨d0, s1, (Below.refl _ wr).drew⟩ | (refine keepM ?_ bn; assumption))
            (first | (go_at_call 63; (with_reducible refine (HMU.out _).mono ?_); rintro e wn ⟨rfl, bn⟩))
          clear k1 k2 k3 k4 k5 k6 k7 s1 d0
          go_split_ands
          have hbn : Below wr.heap.size wr wn := by assumption
          have hLn := Lib.hid (own_keep hbn hL.out)
          obtain ⟨y, hy⟩ : ∃ y, enc (tnum m b i (d + 1)) = y := ⟨_, rfl⟩
          have hA := (Below.refl _ wn).alloc (Nat.le_refl _) (.cells #[.string y] 22)
          have hLa := Lib.hid (own_keep hA hLn.out)
          have hNC := Lib.hid (one_cellV (W := wn.alloc (.cells #[.string y] 22)) (g := wn.heap.size) (v := .string y) (by rw [Lib.cell_of_heap (heap_alloc_new wn _)]; rfl))
          have hbn2 := hbr.trans (hbn.mono (by omega))
          have hKb : K ≤ (wn.alloc (.cells #[.string y] 22)).heap.size := by have := hbn.size; simp; omega
          have hzn := hbn2.size
          have hzz : (wn.alloc (.cells #[.string y] 22)).heap.size = wn.heap.size + 1 := by simp
          rw [hy]
          have HY := Lib.hid hy
          clear hL hLn hst hG7 HMU bn hy
          go_wp2_with (at_builtin; refine wpList_append_own _ rfl (.tmp 61) (.tmp 63) 38 rfl K 22 i0 (.string ⟨#[]⟩) 1 16 Tryz.underlying38 HINF.out.1.1 HINF.out.1.2.1 HINF.out.1.2.2.1 HINF.out.1.2.2.2 rfl (by decide) (.slice (some ⟨g, 0, none⟩) (d + 1) cap) (d + 1) ((trow m b i (d + 1)).map Value.string) rfl hLa.out ⟨wn.heap.size, 0, none⟩ 1 1 [.string y] rfl rfl hNC.out ?o1 ?o2 ?o3 hKb ?_; (case o1 => simp [Value.oneCell']); (case o2 => unfold maxLen; omega); (case o3 => omega); intro v' w' hown hgrow _; clear hLa hNC)
          refine ⟨⟨d + 1, by omega, by go_num, ?_, (hbn2.alloc (by omega) _).grown hgrow (by simp; omega) (fun k e => by cases e; exact hKg)⟩, by simp [intOf]; omega⟩
          rw [trow_succ m b i (d + 1), HY.out, List.map_append]
          exact hown
        · obtain rfl : d = 15 := by omega
          have hst16 : StrAt wr g (trow m b i 16) := hst
          have HST := Lib.hid hst16
          have hgb : ∃ cur, wr.heap[g]? = some (.cells cur 22 (0, 0)) := (own_ge hL.out g rfl).2
          have HGB := Lib.hid hgb
          have X7 := X6.below hbr (by omega)
          have hR7 : Hid (Rws wr (p + 1) v m b i vs) := by
            exact HR6.out wr hbr
          have c7 := X7.c2
          have f7 := X7.f 2
          have hLb := Lib.hid (Below.refl wr.heap.size wr)
          obtain ⟨u, hu⟩ : ∃ u, Value.slice (some ⟨g, 0, none⟩) 16 cap = u := ⟨_, rfl⟩
          have hA := (Below.refl _ wr).alloc (Nat.le_refl _) (.cells #[.slice (some ⟨g, 0, none⟩) 16 cap] 38)
          have hPa := Lib.hid (own_keep hA hR7.out.own)
          have hNC := Lib.hid (one_cellV (W := wr.alloc (.cells #[.slice (some ⟨g, 0, none⟩) 16 cap] 38)) (g := wr.heap.size) (v := .slice (some ⟨g, 0, none⟩) 16 cap) (by rw [Lib.cell_of_heap (heap_alloc_new wr _)]; rfl))
          have hbp : Below p w4 wr := hb6.trans (hbr.mono (by omega))
          have hKb : p + 1 ≤ (wr.alloc (.cells #[.slice (some ⟨g, 0, none⟩) 16 cap] 38)).heap.size := by simp; omega
          have hvw : ∀ v0 : Value, v.ownBlock = v0.ownBlock → v.ownBlock = v0.ownBlock := fun _ h => h
          clear hL hst hbr hLb hu u hvw HR6
          go_wp2_with (at_builtin; go_loud (refine wpList_append_own _ rfl (.tmp 67) (.tmp 69) 44 rfl (p + 1) 38 i1 (.slice none 0 0) 1 24 Tryz.underlying44 HINF.out.2.1 HINF.out.2.2.1 HINF.out.2.2.2.1 HINF.out.2.2.2.2 rfl (by decide) v i vs rfl hPa.out ⟨wr.heap.size, 0, none⟩ 1 1 [.slice (some ⟨g, 0, none⟩) 16 cap] rfl rfl hNC.out ?o4 ?o5 ?o6 hKb ?_; (case o4 => simp [Value.oneCell']); (case o5 => unfold maxLen; omega); (case o6 => omega); intro v' w' hown hgrow _; obtain ⟨g', cap', rfl⟩ := ownsRow_succ hown; obtain ⟨X8, hR8, hS8⟩ := hR7.out.push HST.out HGB.out X7 hown hgrow; have c8 := X8.c2; have f8 := X8.f 2; have HR8 := Lib.hid hR8; have HS8 := Lib.hid hS8; clear hPa hNC hown hR8 hS8))
          have hgp : g ≠ p := by omega
          have X9 := X8.set2 (.slice (some ⟨g', 0, none⟩) (i + 1) cap')
          have HR9 := Lib.hid (HR8.out.set (x := .slice (some ⟨g', 0, none⟩) (i + 1) cap') X8)
          have HS9 : Hid (StrAt (w'.setCell ⟨p, 2, none⟩ (.slice (some ⟨g', 0, none⟩) (i + 1) cap')) g (trow m b i 16)) := fun k hk => cell_set_ne (HS8.out k hk) hgp
          have hb8 : Below p w4 w' := (hbp.alloc (Nat.le_of_lt X7.lt) _).grown hgrow (by simp; have := X7.lt; omega) (fun k e => by have := (own_ge hR7.out.own k e).1; omega)
          have hb9 := hb8.setCell (p := ⟨p, 2, none⟩) (Nat.le_refl _) (.slice (some ⟨g', 0, none⟩) (i + 1) cap')
          clear hgrow X8 HR8 HS8 hR7 X7 hb8 hbp c7 f7 c8 f8 hA hKb HGB hgb HST hst16
          generalize w'.setCell ⟨p, 2, none⟩ (.slice (some ⟨g', 0, none⟩) (i + 1) cap') = w9 at X9 HR9 HS9 hb9 ⊢
          have hG9 := hG3.below hb9 (by omega)
          have d0 := hG9.c0
          have s1 : w9.cell? ⟨g, 15, none⟩ = some (.string (enc (tnum m b i 15))) := by
            rw [HS9.out 15 (by rw [trow_len]; omega), trow_get]
          have HMU : Hid (∀ w, Calls Tryz.prog 63 #[.string (enc (tnum m b i 15)), .string (enc (tnum m b i 1)), .string M] w fun e w' => e = .returned (.tuple #[.string (enc (tnum m b (i + 1) 1)), .int .i64 0]) ∧ Below w.heap.size w w') := fun w => by
            have h := ModMul_ok (enc (tnum m b i 15)) (enc (tnum m b i 1)) M (tnum m b i 15) (tnum m b i 1) m w (IsN.mk' (mod_le HM.out (by have := H2.out; omega))) HB1.out HM.out (by have := H2.out; omega)
            rw [tnum_next, tnum_top] at h
            exact h
          clear HS9 hG9 hG7 X6 G6 T6 hb6
          go_region_held3 (fun w' => w'.cell? ⟨w.heap.size, 0, none⟩ = some (.string M) ∧ w'.cell? ⟨g, 15, none⟩ = some (.string (enc (tnum m b i 15))) ∧ Below w9.heap.size w9 w')
            (first | exact ⟨d0, s1, (Below.refl _ w9).drew⟩ | (refine keepM ?_ bn; assumption))
            (first | (go_at_call 63; (with_reducible refine (HMU.out _).mono ?_); rintro e wn ⟨rfl, bn⟩))
          go_split_ands
          have hbn : Below w9.heap.size w9 wn := by assumption
          have X10 := X9.below hbn X9.lt
          have HR10 := HR9.out.below hbn
          have hb10 := hb9.trans (hbn.mono (by have := X9.lt; omega))
          go_wp2_with fail
          exact ⟨⟨i + 1, by omega, by go_num, rfl, _, _, X10, HR10, hb10⟩, by simp [intOf]; omega⟩
    · obtain rfl : cnt = i := by omega
      have c0 := hX.c0
      have c1 := hX.c1
      have c2 := hX.c2
      have d0 := hT4.c0
      have d1 := hT4.c1
      have d2 := hT4.c2
      have f0 := hT4.f 0
      have f1 := hT4.f 1
      have f2 := hT4.f 2
      have hne : ∀ (x y z : Value) k, k ≠ w.heap.size + 1 → (((wr.setCell ⟨w.heap.size + 1, 0, none⟩ x).setCell ⟨w.heap.size + 1, 1, none⟩ y).setCell ⟨w.heap.size + 1, 2, none⟩ z).heap[k]? = wr.heap[k]? := fun x y z k hk =>
        (Below.heap_setCell _ _ _ _ hk).trans ((Below.heap_setCell _ _ _ _ hk).trans (Below.heap_setCell _ _ _ _ hk))
      have HTB : Hid (∀ x y z : Value, TbAt (((wr.setCell ⟨w.heap.size + 1, 0, none⟩ x).setCell ⟨w.heap.size + 1, 1, none⟩ y).setCell ⟨w.heap.size + 1, 2, none⟩ z) v m b cnt) := fun x y z =>
        hR.out.tb (r := w.heap.size + 1) hT4 (by omega) (by simp) (hne x y z)
      have hbf := hb3.trans (hbr.mono (by omega))
      have HBF : Hid (∀ x y z : Value, Below w.heap.size w (((wr.setCell ⟨w.heap.size + 1, 0, none⟩ x).setCell ⟨w.heap.size + 1, 1, none⟩ y).setCell ⟨w.heap.size + 1, 2, none⟩ z)) := fun x y z =>
        ((hbf.setCell (p := ⟨w.heap.size + 1, 0, none⟩) (by simp) _).setCell (p := ⟨w.heap.size + 1, 1, none⟩) (by simp) _).setCell (p := ⟨w.heap.size + 1, 2, none⟩) (by simp) _
      have hvv : ∃ ao n c, v = .slice ao n c := by
        rcases hR.out.own.2 with ⟨h1, h2⟩ | ⟨g, cap, cur, h1, _⟩
        · exact ⟨_, _, _, h1⟩
        · exact ⟨_, _, _, h1⟩
      obtain ⟨ao, nn, cc, rfl⟩ := hvv
      clear hne hbf hlt hi hG4
      go_wp2_with fail
      refine bodyPost_tab rfl rfl rfl (put3 hT4) rfl ?_
      exact ⟨_, rfl, by rw [HCNT.out]; exact HTB.out _ _ _, HBF.out _ _ _⟩
end Go.Proofs.YtcjbbneiobnmkaaGreat

/- power: Table.Exp. -/
namespace Go.Proofs.YtcjbbneiobnmkaaGreat
open Go.RowKit Num
set_option maxRecDepth 20000
set_option linter.unusedVariables false
theorem TbAt.open' {W : World} {v : Value} {m b n : Nat} (h : TbAt W v m b n) : ∃ ao c, v = .slice ao n c ∧ ∀ i, i < n → ∃ g h c', ao = some ⟨g, 0, none⟩ ∧ g < W.heap.size ∧ W.cell? ⟨g, i, none⟩ = some (.slice (some ⟨h, 0, none⟩) 16 c') ∧ h < W.heap.size ∧ StrAt W h (trow m b i 16) := by
  rcases h with ⟨h1, h2⟩ | ⟨g, c, h1, h2, h3⟩
  · subst h1; exact ⟨none, 0, h2, fun i hi => by omega⟩
  · refine ⟨some ⟨g, 0, none⟩, c, h1, fun i hi => ?_⟩
    obtain ⟨q, c', e1, e2, e3⟩ := h3 i hi
    exact ⟨g, q, c', rfl, h2, e1, e2, e3⟩
theorem tabExp_zero (s : ByteArray) (w : World) :
    Calls Tryz.prog 27 #[.agg #[.string ⟨#[]⟩, .int .i64 0, .slice none 0 0], .string s] w fun e w' => e = .returned (.tuple #[.string ⟨#[]⟩, .int .i64 (if validB s = true then 26 else 3)]) ∧ Below w.heap.size w w' := by
  have hb := (Below.refl _ w).alloc (Nat.le_refl _) (.cells #[.string ⟨#[]⟩, .int .i64 0, .slice none 0 0] 46)
  have hT := TX.new w ⟨#[]⟩ 0 (.slice none 0 0)
  by_cases hv : validB s = true
  · rw [if_pos hv]
    have HV := Lib.hid hv
    clear hv
    go_enter Tryz.func27, Tryz.ntmps27
    go_wp2_with fail
    refine (Valid_any s _).mono ?_; rw [HV.out]; rintro e w2 ⟨rfl, rfl⟩
    have c0 := hT.c0
    go_wp2_with fail
    go_ret2
    exact ⟨rfl, hb⟩
  · rw [if_neg hv]
    have HV := Lib.hid (show validB s = false by simpa using hv)
    clear hv
    go_enter Tryz.func27, Tryz.ntmps27
    go_wp2_with fail
    refine (Valid_any s _).mono ?_; rw [HV.out]; rintro e w2 ⟨rfl, rfl⟩
    go_wp2_with fail
    go_ret2
    exact ⟨rfl, hb⟩
/-- what a table's power answers -/
def teE (bits : Nat) (s : ByteArray) : Int := if validB s = true then (if bits < bl (nv s) then 5 else 0) else 3
set_option maxHeartbeats 4000000 in
theorem tabExp_bad (M s : ByteArray) (bits : Nat) (v : Value) (w : World) (hM : M.size ≠ 0) (E : Int) (hE : teE bits s = E) (h0 : E ≠ 0) :
    Calls Tryz.prog 27 #[.agg #[.string M, .int .i64 (bits : Int), v], .string s] w fun e w' => e = .returned (.tuple #[.string ⟨#[]⟩, .int .i64 E]) ∧ Below w.heap.size w w' := by
  have hb := (Below.refl _ w).alloc (Nat.le_refl _) (.cells #[.string M, .int .i64 (bits : Int), v] 46)
  have hT := TX.new w M (bits : Int) v
  obtain ⟨n1, n2⟩ := tl_ne hM
  unfold teE at hE
  by_cases hv : validB s = true
  · rw [if_pos hv] at hE
    have hlt : bits < bl (nv s) := by
      by_cases h : bits < bl (nv s)
      · exact h
      · rw [if_neg h] at hE; exact absurd hE.symm h0
    rw [if_pos hlt] at hE
    subst hE
    have HV := Lib.hid hv
    have HB : Hid (∀ w, Calls Tryz.prog 61 #[.string s] w fun e w' => e = .returned (.int .i64 ((bl (nv s) : Nat) : Int)) ∧ w' = w) := fun w => (Bits_any s (nv s) w (isN_of_valid hv)).mono fun _ _ ⟨a, b⟩ => ⟨a, b.symm⟩
    have u1 : decide ((bits : Int) < ((bl (nv s) : Nat) : Int)) = true := decide_eq_true (by omega)
    have u2 : decide (bits < bl (nv s)) = true := decide_eq_true hlt
    clear hv hlt h0
    go_enter Tryz.func27, Tryz.ntmps27
    go_wp2_with fail
    generalize w.alloc _ = w0 at hb hT ⊢
    refine (Valid_any s _).mono ?_; rw [HV.out]; rintro e w2 ⟨rfl, rfl⟩
    have c0 := hT.c0
    have c1 := hT.c1
    go_wp2_with fail
    go_quiet ((go_at_call 61; exact Calls.quiet_of_same (HB.out _)))
    have hq := below_drewN hb nq
    generalize w0.drewN nq = w2 at hq ⊢
    go_wp2_with fail
    go_ret2
    exact ⟨rfl, hq⟩
  · rw [if_neg hv] at hE
    subst hE
    have HV := Lib.hid (show validB s = false by simpa using hv)
    clear hv h0
    go_enter Tryz.func27, Tryz.ntmps27
    go_wp2_with fail
    refine (Valid_any s _).mono ?_; rw [HV.out]; rintro e w2 ⟨rfl, rfl⟩
    go_wp2_with fail
    go_ret2
    exact ⟨rfl, hb⟩
namespace Num
theorem dig_next (e i b : Nat) : b ^ (e % 16 ^ (i + 1)) = b ^ (e % 16 ^ i) * b ^ (16 ^ i * (e / 16 ^ i % 16)) := by
  rw [← Nat.pow_add, Nat.pow_succ, Nat.mod_mul]
theorem bit_next (x k : Nat) : x % 2 ^ (k + 1) = x % 2 ^ k + (if tb x k then 2 ^ k else 0) := by
  rw [Nat.pow_succ, Nat.mod_mul]
  unfold tb
  by_cases h : x / 2 ^ k % 2 = 1
  · rw [decide_eq_true h, h]; simp
  · rw [decide_eq_false h, show x / 2 ^ k % 2 = 0 by omega]; simp
theorem tb_shift (e i k : Nat) : tb e (4 * i + k) = tb (e / 16 ^ i) k := by
  unfold tb
  rw [Nat.pow_add, Nat.pow_mul, ← Nat.div_div_eq_div_mul]
end Num
theorem or_bit (k x : Nat) (hk : k < 4) (hx : x < 2 ^ k) : Go.bits BinOp.or IntKind.i64 ((x : Nat) : Int) (wrap64 (2 ^ k)) = ((x + 2 ^ k : Nat) : Int) := by
  have key : ∀ k : Fin 4, ∀ x : Fin 8, x.val < 2 ^ k.val → Go.bits BinOp.or IntKind.i64 ((x.val : Nat) : Int) (wrap64 (2 ^ k.val)) = ((x.val + 2 ^ k.val : Nat) : Int) := by decide +kernel
  have h8 : x < 8 := Nat.lt_of_lt_of_le hx (Nat.pow_le_pow_right (n := 2) (by omega) (show k ≤ 3 by omega))
  exact key ⟨k, hk⟩ ⟨x, h8⟩ hx
set_option maxHeartbeats 8000000 in
theorem tabExp_ok (M s : ByteArray) (bits m b e0 n : Nat) (v : Value) (w : World) (hM : IsN M m) (h2 : 2 ≤ m) (hs : IsN s e0) (hl : bl e0 ≤ bits) (hb' : bits ≤ 1024) (hn : (bits + 3) / 4 = n) (hT : TbAt w v m b n) :
    Calls Tryz.prog 27 #[.agg #[.string M, .int .i64 (bits : Int), v], .string s] w fun e w' => e = .returned (.tuple #[.string (enc (b ^ e0 % m)), .int .i64 0]) ∧ Below w.heap.size w w' := by
  have hb := (Below.refl _ w).alloc (Nat.le_refl _) (.cells #[.string M, .int .i64 (bits : Int), v] 46)
  have hT1 := hT.below hb
  have hX := TX.new w M (bits : Int) v
  obtain ⟨n1, n2⟩ := tl_ne (hM.pos (by omega))
  have HS := Lib.hid hs
  have HM := Lib.hid hM
  have H2 := Lib.hid h2
  have HB : Hid (∀ w, Calls Tryz.prog 61 #[.string s] w fun e w' => e = .returned (.int .i64 ((bl e0 : Nat) : Int)) ∧ w' = w) := fun w => (Bits_any s e0 w hs).mono fun _ _ ⟨a, b⟩ => ⟨a, b.symm⟩
  have u1 : decide ((bits : Int) < ((bl e0 : Nat) : Int)) = false := decide_eq_false (by omega)
  have u2 : decide (bits < bl e0) = false := decide_eq_false (by omega)
  have hlast : e0 % 16 ^ n = e0 := by
    refine Nat.mod_eq_of_lt (Nat.lt_of_lt_of_le (lt_bl e0) ?_)
    rw [show (16 : Nat) = 2 ^ 4 from rfl, ← Nat.pow_mul]
    exact Nat.pow_le_pow_right (by omega) (by omega)
  have HLAST := Lib.hid hlast
  have hn256 : n ≤ 256 := by omega
  clear hM h2 hs hlast hT hl hn
  obtain ⟨ao, cc, rfl, hrow⟩ := hT1.open'
  have hw1 : Below w.heap.size w (w.alloc (.cells #[.string M, .int .i64 (bits : Int), .slice ao n cc] 46)) := hb
  have HROW := Lib.hid hrow
  clear hrow hT1
  go_enter Tryz.func27, Tryz.ntmps27
  go_wp2_with fail
  generalize w.alloc _ = w0 at hb hX HROW ⊢
  clear hw1
  refine (Valid_any s _).mono ?_; rw [HS.out.valid]; rintro e w2 ⟨rfl, rfl⟩
  have c0 := hX.c0
  have c1 := hX.c1
  have c2 := hX.c2
  go_wp2_with fail
  go_quiet ((go_at_call 61; exact Calls.quiet_of_same (HB.out _)))
  have hq := below_drewN hb nq
  have hqq : Below w0.heap.size w0 (w0.drewN nq) := below_drewN (Below.refl _ w0) nq
  have hX2 := hX.below hqq hX.lt
  have HROW2 : Hid (∀ i, i < n → ∃ g h c', ao = some ⟨g, 0, none⟩ ∧ g < (w0.drewN nq).heap.size ∧ (w0.drewN nq).cell? ⟨g, i, none⟩ = some (.slice (some ⟨h, 0, none⟩) 16 c') ∧ h < (w0.drewN nq).heap.size ∧ StrAt (w0.drewN nq) h (trow m b i 16)) := fun i hi => by
    obtain ⟨g, h, c', e1, e2, e3, e4, e5⟩ := HROW.out i hi
    have := hqq.size
    exact ⟨g, h, c', e1, by omega, (hqq.cell (p := ⟨g, i, none⟩) e2).trans e3, by omega, e5.below hqq e4⟩
  clear hX HROW hb hqq c0 c1 c2
  generalize w0.drewN nq = w2 at hq hX2 HROW2 ⊢
  have c2 := hX2.c2
  go_wp2_with fail
  refine (of1 _).mono ?_; rintro e w3 ⟨rfl, b3⟩
  have hX3 := hX2.below b3 hX2.lt
  have hb3 := hq.trans (b3.mono hq.size)
  have HROW3 : Hid (∀ i, i < n → ∃ g h c', ao = some ⟨g, 0, none⟩ ∧ g < w3.heap.size ∧ w3.cell? ⟨g, i, none⟩ = some (.slice (some ⟨h, 0, none⟩) 16 c') ∧ h < w3.heap.size ∧ StrAt w3 h (trow m b i 16)) := fun i hi => by
    obtain ⟨g, h, c', e1, e2, e3, e4, e5⟩ := HROW2.out i hi
    have := b3.size
    exact ⟨g, h, c', e1, by omega, (b3.cell (p := ⟨g, i, none⟩) e2).trans e3, by omega, e5.below b3 e4⟩
  clear hX2 HROW2 hq b3 c2
  have c2 := hX3.c2
  go_wp2_with fail
  go_loopw [6, 29] (fun vo vi wr => ∃ i : Nat, i ≤ n ∧ vi = .int .i64 (i : Int) ∧ vo = .string (enc (b ^ (e0 % 16 ^ i) % m)) ∧ Below w3.heap.size w3 wr) (fun _ vi _ => n - (intOf vi).toNat)
  case atStart => exact ⟨0, by omega, rfl, by rw [Nat.pow_zero, Nat.mod_one, Nat.pow_zero, Nat.mod_eq_of_lt (by have := H2.out; omega)], Below.refl _ _⟩
  case round =>
    obtain ⟨i, hi, rfl, rfl, hbr⟩ := hrel
    by_cases hlt : i < n
    · obtain ⟨g, h, c', rfl, e2, e3, e4, e5⟩ := HROW3.out i hlt
      have c3 := (hbr.cell (p := ⟨g, i, none⟩) e2).trans e3
      have HST := Lib.hid (e5.below hbr e4)
      have HBIT : Hid (∀ (k : Nat) w, k ≤ 4 → Calls Tryz.prog 47 #[.string s, .int .i64 (4 * (i : Int) + (k : Int))] w fun e w' => e = .returned (.bool (tb (e0 / 16 ^ i) k)) ∧ w = w') := fun k w hk => by
        have hh := Bit_any s e0 (4 * i + k) w HS.out (by omega)
        rw [tb_shift, show ((4 * i + k : Nat) : Int) = 4 * (i : Int) + (k : Int) by omega] at hh
        exact hh
      obtain ⟨q, hqv⟩ : ∃ q, e0 / 16 ^ i = q := ⟨_, rfl⟩
      rw [hqv] at HBIT
      have HQ := Lib.hid hqv
      clear e2 e3 e4 e5 hqv
      go_wp2_with fail
      obtain ⟨wo, rfl⟩ : ∃ wo : World, wo = wr := ⟨_, rfl⟩
      go_loopw [9, 34] (fun vd vk wr => ∃ k : Nat, k ≤ 4 ∧ vk = .int .i64 (k : Int) ∧ vd = .int .i64 ((q % 2 ^ k : Nat) : Int) ∧ wr = wo) (fun _ vk _ => 4 - (intOf vk).toNat)
      case atStart => exact ⟨0, by omega, rfl, by simp [Nat.mod_one], rfl⟩
      case round =>
        obtain ⟨k, hk, rfl, rfl, rfl⟩ := hrel
        by_cases hk4 : k < 4
        · cases hbit : tb q k
          · have hnx := bit_next q k
            rw [hbit] at hnx
            have HNX := Lib.hid hnx
            clear hnx
            go_wp2_with fail
            refine (HBIT.out k _ hk).mono ?_; rw [hbit]; rintro e w4 ⟨rfl, rfl⟩
            go_wp2_with fail
            go_roundw
            case rel => exact ⟨k + 1, by omega, by go_num, by rw [HNX.out]; simp, trivial⟩
            case measure => simp [intOf]; omega
          · have hnx := bit_next q k
            rw [hbit] at hnx
            have HNX := Lib.hid hnx
            clear hnx
            go_wp2_with fail
            refine (HBIT.out k _ hk).mono ?_; rw [hbit]; rintro e w4 ⟨rfl, rfl⟩
            go_wp2_with fail
            refine ⟨⟨k + 1, by omega, by go_num, ?_, trivial⟩, by simp [intOf]; omega⟩
            rw [HNX.out, if_pos trivial, ← or_bit k (q % 2 ^ k) hk4 (Nat.mod_lt _ (Nat.two_pow_pos k))]
            simp
        · obtain rfl : k = 4 := by omega
          obtain ⟨d, hd⟩ : ∃ d, q % 2 ^ 4 = d := ⟨_, rfl⟩
          have hd16 : d < 16 := by rw [← hd]; exact Nat.mod_lt _ (by omega)
          rw [hd]
          have hX4 := hX3.below hbr hX3.lt
          have d0 := hX4.c0
          have s1 : wr.cell? ⟨h, d, none⟩ = some (.string (enc (tnum m b i d))) := by
            rw [HST.out d (by rw [trow_len]; omega), trow_get]
          have k3 : (0 : Int) ≤ (d : Int) := by omega
          have k4 : (d : Int) < 16 := by omega
          have HMU : Hid (∀ w, Calls Tryz.prog 63 #[.string (enc (b ^ (e0 % 16 ^ i) % m)), .string (enc (tnum m b i d)), .string M] w fun e w' => e = .returned (.tuple #[.string (enc (b ^ (e0 % 16 ^ (i + 1)) % m)), .int .i64 0]) ∧ Below w.heap.size w w') := fun w => by
            have hh := ModMul_ok (enc (b ^ (e0 % 16 ^ i) % m)) (enc (tnum m b i d)) M _ _ m w (IsN.mk' (mod_le (a := b ^ (e0 % 16 ^ i)) HM.out (by have := H2.out; omega))) (IsN.mk' (mod_le (a := b ^ (16 ^ i * d)) HM.out (by have := H2.out; omega))) HM.out (by have := H2.out; omega)
            rw [dig_next, HQ.out, show q % 16 = d from hd, Nat.mul_mod]
            exact hh
          clear hd HBIT
          go_wp2_with fail
          go_region_held3 (fun w' => w'.cell? ⟨w.heap.size, 0, none⟩ = some (.string M) ∧ w'.cell? ⟨h, d, none⟩ = some (.string (enc (tnum m b i d))) ∧ Below wr.heap.size wr w')
            (first | exact ⟨d0, s1, (Below.refl _ wr).drew⟩ | (refine keepM ?_ bn; assumption))
            (first | (go_at_call 63; (with_reducible refine (HMU.out _).mono ?_); rintro e wn ⟨rfl, bn⟩))
          go_split_ands
          have hbn : Below wr.heap.size wr wn := by assumption
          have hbn2 := hbr.trans (hbn.mono hbr.size)
          go_wp2_with fail
          exact ⟨⟨i + 1, by omega, by go_num, rfl, hbn2⟩, by simp [intOf]; omega⟩
    · obtain rfl : i = n := by omega
      rw [HLAST.out]
      go_wp2_with fail
      go_ret2
      exact ⟨rfl, hb3.trans (hbr.mono hb3.size)⟩
end Go.Proofs.YtcjbbneiobnmkaaGreat
