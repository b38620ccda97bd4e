import Derived.Test.YtdlbnioidfhhcaaGreatFldG
import Derived.Test.YtdlbnioidfhhcaaGreatPwC
import Derived.Test.YtdlbnioidfhhcaaGreatInt
/- Statements in memory: groups, variables, equations, terms; an argument that is a statement, opened. -/
namespace Go.Proofs.YtdlbnioidfhhcaaGreat
open Go.RowKit Go.WideShapes Go.ChangeShapes Go.ChangeAt Num
set_option linter.unusedVariables false
set_option maxRecDepth 20000
/-- a term: base, variable, coefficient -/
abbrev TmR := ByteArray × Int × (Bool × ByteArray)
/-- an equation, with where its terms lie -/
abbrev EqR := Int × ByteArray × (Option Addr × Nat × List TmR)
/-- an equation alone -/
abbrev EqP := Int × ByteArray × List TmR
def eqp (q : EqR) : EqP := (q.1, q.2.1, q.2.2.2.2)
/-- a slice of groups -/
def GSl (w : World) (ao : Option Addr) (L : List (ByteArray × ByteArray)) : Prop := ∀ k (h : k < L.length), ∃ b off, ao = some ⟨b, off, none⟩ ∧ w.cell? ⟨b, off + k * 2, none⟩ = some (.string L[k].1) ∧ w.cell? ⟨b, off + k * 2 + 1, none⟩ = some (.string L[k].2)
/-- a slice of terms -/
def TSl (w : World) (ao : Option Addr) (L : List TmR) : Prop := ∀ k (h : k < L.length), ∃ b off, ao = some ⟨b, off, none⟩ ∧ w.cell? ⟨b, off + k * 4, none⟩ = some (.string L[k].1) ∧ w.cell? ⟨b, off + k * 4 + 1, none⟩ = some (.int .i64 L[k].2.1) ∧ w.cell? ⟨b, off + k * 4 + 2, none⟩ = some (.bool L[k].2.2.1) ∧ w.cell? ⟨b, off + k * 4 + 3, none⟩ = some (.string L[k].2.2.2)
/-- a slice of equations -/
def QSl (w : World) (ao : Option Addr) (L : List EqR) : Prop := ∀ k (h : k < L.length), ∃ b off, ao = some ⟨b, off, none⟩ ∧ w.cell? ⟨b, off + k * 3, none⟩ = some (.int .i64 L[k].1) ∧ w.cell? ⟨b, off + k * 3 + 1, none⟩ = some (.string L[k].2.1) ∧ w.cell? ⟨b, off + k * 3 + 2, none⟩ = some (.slice L[k].2.2.1 L[k].2.2.2.2.length L[k].2.2.2.1) ∧ TSl w L[k].2.2.1 L[k].2.2.2.2
theorem cells_keepL {w w' : World} {K : Nat} (hb : Below K w w') (hK : w.heap.size ≤ K) : ∀ p v, w.cell? p = some v → w'.cell? p = some v := fun p v hv => by
  have h2 : p.block < w.heap.size := World.block_lt_of_cell? w _ hv
  rw [hb.cell (p := p) (by omega)]
  exact hv
theorem GSl.keep {w w' : World} {a : Option Addr} {L : List (ByteArray × ByteArray)} (h : GSl w a L) (hk : ∀ p v, w.cell? p = some v → w'.cell? p = some v) : GSl w' a L := fun k hk' => by
  obtain ⟨b, off, h1, h2, h3⟩ := h k hk'
  exact ⟨b, off, h1, hk _ _ h2, hk _ _ h3⟩
theorem TSl.keep {w w' : World} {a : Option Addr} {L : List TmR} (h : TSl w a L) (hk : ∀ p v, w.cell? p = some v → w'.cell? p = some v) : TSl w' a L := fun k hk' => by
  obtain ⟨b, off, h1, h2, h3, h4, h5⟩ := h k hk'
  exact ⟨b, off, h1, hk _ _ h2, hk _ _ h3, hk _ _ h4, hk _ _ h5⟩
theorem QSl.keep {w w' : World} {a : Option Addr} {L : List EqR} (h : QSl w a L) (hk : ∀ p v, w.cell? p = some v → w'.cell? p = some v) : QSl w' a L := fun k hk' => by
  obtain ⟨b, off, h1, h2, h3, h4, h5⟩ := h k hk'
  exact ⟨b, off, h1, hk _ _ h2, hk _ _ h3, hk _ _ h4, h5.keep hk⟩
theorem NS.keepL {w w' : World} {a : Option Addr} {L : List ByteArray} (h : NS w a L) (hk : ∀ p v, w.cell? p = some v → w'.cell? p = some v) : NS w' a L := fun k hk' => by
  obtain ⟨b, off, h1, h2⟩ := h k hk'
  exact ⟨b, off, h1, hk _ _ h2⟩
theorem IS.keepL {w w' : World} {a : Option Addr} {L : List (Bool × ByteArray)} (h : IS w a L) (hk : ∀ p v, w.cell? p = some v → w'.cell? p = some v) : IS w' a L := fun k hk' => by
  obtain ⟨b, off, h1, h2, h3⟩ := h k hk'
  exact ⟨b, off, h1, hk _ _ h2, hk _ _ h3⟩
/-- where a statement lies -/
structure StA where
  ga : Option Addr
  gc : Nat
  va : Option Addr
  vc : Nat
  qa : Option Addr
  qc : Nat
/-- a statement, with where the terms of its equations lie -/
structure StM where
  G : List (ByteArray × ByteArray)
  V : List ByteArray
  Q : List EqR
/-- a statement alone -/
structure StP where
  G : List (ByteArray × ByteArray)
  V : List ByteArray
  Q : List EqP
def StM.pl (S : StM) : StP := ⟨S.G, S.V, S.Q.map eqp⟩
/-- the cells of a statement -/
def stC (a : StA) (S : StM) : Array Value := #[.slice a.ga S.G.length a.gc, .slice a.va S.V.length a.vc, .slice a.qa S.Q.length a.qc]
/-- a statement in memory -/
structure SS (w : World) (a : StA) (S : StM) : Prop where
  g : GSl w a.ga S.G
  v : NS w a.va S.V
  q : QSl w a.qa S.Q
theorem SS.keep {w w' : World} {a : StA} {S : StM} (h : SS w a S) (hk : ∀ p v, w.cell? p = some v → w'.cell? p = some v) : SS w' a S := ⟨h.g.keep hk, h.v.keepL hk, h.q.keep hk⟩
theorem SS.below {w w' : World} {a : StA} {S : StM} {K : Nat} (h : SS w a S) (hb : Below K w w') (hK : w.heap.size ≤ K) : SS w' a S := h.keep (cells_keepL hb hK)
/-- the sizes fit -/
def TmR.ok (t : TmR) : Prop := t.1.size ≤ maxLen ∧ (Lit.int .i64 t.2.1).wf = true ∧ t.2.2.2.size ≤ maxLen
def EqR.ok (q : EqR) : Prop := (Lit.int .i64 q.1).wf = true ∧ q.2.1.size ≤ maxLen ∧ q.2.2.2.2.length ≤ maxLen ∧ ∀ t ∈ q.2.2.2.2, TmR.ok t
structure StM.ok (S : StM) : Prop where
  gl : S.G.length ≤ maxLen
  vl : S.V.length ≤ maxLen
  ql : S.Q.length ≤ maxLen
  g : ∀ x ∈ S.G, x.1.size ≤ maxLen ∧ x.2.size ≤ maxLen
  v : ∀ x ∈ S.V, x.size ≤ maxLen
  q : ∀ x ∈ S.Q, EqR.ok x
section
variable {H : Type} {enc : TypeId × Value → H} {P : Program}
/-- a cell that is a slice of structs -/
theorem open_rows {W : World} {t e : TypeId} {k fuel : Nat} {α : Type} [Inhabited α] {c : Value} {y0 : DataW H × List MemPlace} (R : α → (Nat → Option Value) → Prop) (ht : P.underlying t = some (.slice e)) (ce : P.cellsOf e = k) (hk0 : 0 < k)
    (each : ∀ n cs y, DataW.trod enc P W 0 (fun _ => true) true n e cs = some y → cs.length = k → ∃ q, R q (fun j => cs[j]?)) (h : DataW.trod enc P W 0 (fun _ => true) true fuel t [c] = some y0) :
    ∃ (ao : Option Addr) (cm : Nat) (L : List α), c = .slice ao L.length cm ∧ L.length ≤ maxLen ∧ ∀ i (h : i < L.length), ∃ b off, ao = some ⟨b, off, none⟩ ∧ R L[i] (fun j => if j < k then W.cell? ⟨b, off + i * k + j, none⟩ else none) := by
  rcases Go.Deep.open_slice ht h with ⟨hcs, hx⟩ | ⟨a, len, cap, m, n', D, Pl, hcs, _, hl, hm, hmm, rfl, hx⟩
  · obtain rfl : c = .slice none 0 0 := by simpa using hcs
    exact ⟨none, 0, [], rfl, by simp, fun i h => by simp at h⟩
  · obtain rfl : c = .slice (some a) len cap := by simpa using hcs
    have hm' : len ≤ m := by rw [hmm]; split <;> omega
    obtain ⟨ab, aoff, spot⟩ := a
    have hs0 : 0 < len → spot = none := fun h0 => by
      obtain ⟨cs', h1, h2⟩ := hx 0 (by omega)
      rw [ce] at h1
      obtain ⟨_, hlen, hcell⟩ := World.cells?_some h1
      have g := hcell 0 (by omega)
      rw [List.getElem?_eq_getElem (by omega)] at g
      have := World.cell?_spot g
      simpa [Addr.add] using this
    have each' : ∀ i, i < len → ∃ q : α, spot = none ∧ R q (fun j => if j < k then W.cell? ⟨ab, aoff + i * k + j, none⟩ else none) := by
      intro i hi
      obtain ⟨cs', h1, h2⟩ := hx i (by omega)
      rw [ce] at h1
      obtain ⟨_, hlen, hcell⟩ := World.cells?_some h1
      obtain ⟨q, hq⟩ := each _ _ _ h2 hlen
      have hspot : spot = none := hs0 (by omega)
      subst hspot
      refine ⟨q, rfl, ?_⟩
      have e : (fun j => cs'[j]?) = fun j => if j < k then W.cell? ⟨ab, aoff + i * k + j, none⟩ else none := by
        funext j
        by_cases hj : j < k
        · have g := hcell j (by omega)
          rw [Go.WideShapes.add_plain, Go.WideShapes.add_plain] at g
          rw [if_pos hj]
          exact g.symm
        · rw [if_neg hj, List.getElem?_eq_none (by omega)]
      rw [← e]
      exact hq
    obtain ⟨q, hq⟩ := Go.Deep.choose_lt each'
    have hlen : ((List.range len).map q).length = len := by simp
    refine ⟨some ⟨ab, aoff, spot⟩, cap, (List.range len).map q, by rw [hlen], by rw [hlen]; omega, fun i hi => ?_⟩
    rw [hlen] at hi
    obtain ⟨h1, h2⟩ := hq i hi
    subst h1
    refine ⟨ab, aoff, rfl, ?_⟩
    simpa using h2
end
section
variable {H : Type} {enc : TypeId × Value → H} {W : World} {fuel : Nat} {c : Value} {y0 : DataW H × List MemPlace}
theorem rows_groups (h : DataW.trod enc Tryz.prog W 0 (fun _ => true) true fuel 38 [c] = some y0) :
    ∃ (ao : Option Addr) (cm : Nat) (L : List (ByteArray × ByteArray)), c = .slice ao L.length cm ∧ L.length ≤ maxLen ∧ (∀ x ∈ L, x.1.size ≤ maxLen ∧ x.2.size ≤ maxLen) ∧ GSl W ao L := by
  obtain ⟨ao, cm, L, h1, h2, h3⟩ := open_rows (k := 2) (α := ByteArray × ByteArray) (fun q f => f 0 = some (.string q.1) ∧ f 1 = some (.string q.2) ∧ q.1.size ≤ maxLen ∧ q.2.size ≤ maxLen) Tryz.underlying38 (by kernel_rfl) (by omega) (fun n cs y hy hl => by
    obtain ⟨s0, e0, z0⟩ := fld_string (j := 0) Tryz.underlying26 rfl Tryz.underlying22 (by kernel_rfl) hy
    obtain ⟨s1, e1, z1⟩ := fld_string (j := 1) Tryz.underlying26 rfl Tryz.underlying22 (by kernel_rfl) hy
    exact ⟨(s0, s1), e0, e1, z0, z1⟩) h
  refine ⟨ao, cm, L, h1, h2, fun x hx => ?_, fun k hk => ?_⟩
  · obtain ⟨i, hi, rfl⟩ := List.mem_iff_getElem.1 hx
    obtain ⟨_, _, _, _, _, z0, z1⟩ := h3 i hi
    exact ⟨z0, z1⟩
  · obtain ⟨b, off, h4, h5, h6, _⟩ := h3 k hk
    exact ⟨b, off, h4, by simpa using h5, by simpa using h6⟩
theorem rows_vars (h : DataW.trod enc Tryz.prog W 0 (fun _ => true) true fuel 39 [c] = some y0) :
    ∃ (ao : Option Addr) (cm : Nat) (L : List ByteArray), c = .slice ao L.length cm ∧ L.length ≤ maxLen ∧ (∀ x ∈ L, x.size ≤ maxLen) ∧ NS W ao L := by
  obtain ⟨ao, cm, L, h1, h2, h3⟩ := open_rows (k := 1) (α := ByteArray) (fun q f => f 0 = some (.string q) ∧ q.size ≤ maxLen) Tryz.underlying39 (by kernel_rfl) (by omega) (fun n cs y hy hl => by
    obtain ⟨s0, e0, z0⟩ := fld_string (j := 0) Tryz.underlying77 rfl Tryz.underlying22 (by kernel_rfl) hy
    exact ⟨s0, e0, z0⟩) h
  refine ⟨ao, cm, L, h1, h2, fun x hx => ?_, fun k hk => ?_⟩
  · obtain ⟨i, hi, rfl⟩ := List.mem_iff_getElem.1 hx
    obtain ⟨_, _, _, _, z0⟩ := h3 i hi
    exact z0
  · obtain ⟨b, off, h4, h5, _⟩ := h3 k hk
    exact ⟨b, off, h4, by simpa using h5⟩
theorem rows_terms (h : DataW.trod enc Tryz.prog W 0 (fun _ => true) true fuel 66 [c] = some y0) :
    ∃ (ao : Option Addr) (cm : Nat) (L : List TmR), c = .slice ao L.length cm ∧ L.length ≤ maxLen ∧ (∀ x ∈ L, TmR.ok x) ∧ TSl W ao L := by
  obtain ⟨ao, cm, L, h1, h2, h3⟩ := open_rows (k := 4) (α := TmR) (fun q f => f 0 = some (.string q.1) ∧ f 1 = some (.int .i64 q.2.1) ∧ f 2 = some (.bool q.2.2.1) ∧ f 3 = some (.string q.2.2.2) ∧ TmR.ok q) Tryz.underlying66 (by kernel_rfl) (by omega) (fun n cs y hy hl => by
    obtain ⟨s0, e0, z0⟩ := fld_string (j := 0) Tryz.underlying94 rfl Tryz.underlying22 (by kernel_rfl) hy
    obtain ⟨i1, e1, z1⟩ := fld_int (j := 1) Tryz.underlying94 rfl Tryz.underlying3 (by kernel_rfl) hy
    obtain ⟨n, y, hy2⟩ := fld (j := 2) Tryz.underlying94 rfl hy
    obtain ⟨g, eg⟩ := fld_bool (j := 0) Tryz.underlying50 rfl Tryz.underlying4 (by kernel_rfl) hy2
    obtain ⟨E, eE, zE⟩ := fld_string (j := 1) Tryz.underlying50 rfl Tryz.underlying22 (by kernel_rfl) hy2
    exact ⟨(s0, i1, g, E), e0, e1, sub_at eg, sub_at eE, z0, z1, zE⟩) h
  refine ⟨ao, cm, L, h1, h2, fun x hx => ?_, fun k hk => ?_⟩
  · obtain ⟨i, hi, rfl⟩ := List.mem_iff_getElem.1 hx
    obtain ⟨_, _, _, _, _, _, _, z0⟩ := h3 i hi
    exact z0
  · obtain ⟨b, off, h4, h5, h6, h7, h8, _⟩ := h3 k hk
    exact ⟨b, off, h4, by simpa using h5, by simpa using h6, by simpa using h7, by simpa using h8⟩
theorem rows_eqs (h : DataW.trod enc Tryz.prog W 0 (fun _ => true) true fuel 40 [c] = some y0) :
    ∃ (ao : Option Addr) (cm : Nat) (L : List EqR), c = .slice ao L.length cm ∧ L.length ≤ maxLen ∧ (∀ x ∈ L, EqR.ok x) ∧ QSl W ao L := by
  obtain ⟨ao, cm, L, h1, h2, h3⟩ := open_rows (k := 3) (α := EqR) (fun q f => f 0 = some (.int .i64 q.1) ∧ f 1 = some (.string q.2.1) ∧ f 2 = some (.slice q.2.2.1 q.2.2.2.2.length q.2.2.2.1) ∧ TSl W q.2.2.1 q.2.2.2.2 ∧ EqR.ok q) Tryz.underlying40 (by kernel_rfl) (by omega) (fun n cs y hy hl => by
    obtain ⟨i0, e0, z0⟩ := fld_int (j := 0) Tryz.underlying68 rfl Tryz.underlying3 (by kernel_rfl) hy
    obtain ⟨s1, e1, z1⟩ := fld_string (j := 1) Tryz.underlying68 rfl Tryz.underlying22 (by kernel_rfl) hy
    obtain ⟨n, y, hy2⟩ := fld (j := 2) Tryz.underlying68 rfl hy
    match cs, hl with
    | [c0, c1, c2], _ =>
    replace hy2 : DataW.trod enc Tryz.prog W 0 (fun _ => true) true n 66 [c2] = some y := hy2
    obtain ⟨ao, cm, L, e2, z2, z3, z4⟩ := rows_terms hy2
    exact ⟨(i0, s1, ao, cm, L), e0, e1, by simp [e2], z4, z0, z1, z2, z3⟩) h
  refine ⟨ao, cm, L, h1, h2, fun x hx => ?_, fun k hk => ?_⟩
  · obtain ⟨i, hi, rfl⟩ := List.mem_iff_getElem.1 hx
    obtain ⟨_, _, _, _, _, _, _, z0⟩ := h3 i hi
    exact z0
  · obtain ⟨b, off, h4, h5, h6, h7, h8, _⟩ := h3 k hk
    exact ⟨b, off, h4, by simpa using h5, by simpa using h6, by simpa using h7, h8⟩
/-- an argument of the type Statement -/
theorem open_S {base : Nat} {v : Value} {d : DataW H} {p : List MemPlace} (hv : Value.okWide Tryz.prog W .any base 42 v) (h : DataW.Trod enc Tryz.prog W 0 (fun _ => true) true 42 v d p) :
    ∃ (a : StA) (S : StM), v = .agg (stC a S) ∧ S.ok ∧ SS W a S := by
  obtain ⟨cs, rfl, hsz⟩ := okWide_struct Tryz.underlying42 hv
  obtain ⟨l⟩ := cs
  obtain ⟨fuel, hf⟩ := h
  have hf' : DataW.trod enc Tryz.prog W 0 (fun _ => true) true fuel 42 l = some (d, p) := hf
  obtain ⟨n0, y0, hy0⟩ := fld (j := 0) Tryz.underlying42 rfl hf'
  obtain ⟨n1, y1, hy1⟩ := fld (j := 1) Tryz.underlying42 rfl hf'
  obtain ⟨n2, y2, hy2⟩ := fld (j := 2) Tryz.underlying42 rfl hf'
  have hl : l.length = 3 := hsz.trans (by kernel_rfl)
  match l, hl with
  | [c0, c1, c2], _ =>
  replace hy0 : DataW.trod enc Tryz.prog W 0 (fun _ => true) true n0 38 [c0] = some y0 := hy0
  replace hy1 : DataW.trod enc Tryz.prog W 0 (fun _ => true) true n1 39 [c1] = some y1 := hy1
  replace hy2 : DataW.trod enc Tryz.prog W 0 (fun _ => true) true n2 40 [c2] = some y2 := hy2
  obtain ⟨ga, gc, G, rfl, g1, g2, g3⟩ := rows_groups hy0
  obtain ⟨va, vc, V, rfl, v1, v2, v3⟩ := rows_vars hy1
  obtain ⟨qa, qc, Q, rfl, q1, q2, q3⟩ := rows_eqs hy2
  exact ⟨⟨ga, gc, va, vc, qa, qc⟩, ⟨G, V, Q⟩, rfl, ⟨g1, v1, q1, g2, v2, q2⟩, ⟨g3, v3, q3⟩⟩
end
end Go.Proofs.YtdlbnioidfhhcaaGreat

/- Plain: what linear computes. -/
namespace Go.Proofs.YtdlbnioidfhhcaaGreat
open Go.RowKit Num
set_option linter.unusedVariables false
/-- is a string empty? -/
def emB (s : ByteArray) : Bool := s.toList.isEmpty
def fmT (n : Nat) (t : TmR) : Bool := decide (0 ≤ t.2.1) && (decide (t.2.1 < (n : Int)) && (validB t.1 && ivB t.2.2))
def fmQ (m n : Nat) (q : EqP) : Bool := decide (0 ≤ q.1) && (decide (q.1 < (m : Int)) && (validB q.2.1 && q.2.2.all (fmT n)))
def fmG (g : ByteArray × ByteArray) : Bool := validB g.1 && validB g.2
/-- the first group of conditions -/
def formB (S : StP) : Bool := S.G.all fmG && (S.V.all validB && S.Q.all (fmQ S.G.length S.V.length))
def lgQ (q : EqP) : Bool := decide (64 < q.2.2.length)
/-- the second one -/
def manyB (S : StP) : Bool := decide (8 < S.G.length) || (decide (64 < S.V.length) || (decide (64 < S.Q.length) || S.Q.any lgQ))
def grpS (S : StP) (q : EqP) : ByteArray × ByteArray := S.G.getD q.1.toNat (⟨#[]⟩, ⟨#[]⟩)
def elT (g : ByteArray × ByteArray) (t : TmR) : Bool := hasB g.1 g.2 t.1
def elQ (S : StP) (q : EqP) : Bool := hasB (grpS S q).1 (grpS S q).2 q.2.1 && q.2.2.all (elT (grpS S q))
def ckG (g : ByteArray × ByteArray) : Bool := decide (gE g.1 g.2 = 0)
/-- the third one -/
def elB (S : StP) : Bool := S.G.all ckG && S.Q.all (elQ S)
def ordL : List (ByteArray × ByteArray) → ByteArray
  | [] => ⟨#[]⟩
  | g :: r => if emB g.2 = true then ordL r else g.2
def ordS (S : StP) : ByteArray := ordL S.G
def bndS (S : StP) (t : TmR) : ByteArray := S.V.getD t.2.1.toNat ⟨#[]⟩
def tyG (o : ByteArray) (g : ByteArray × ByteArray) : Bool := emB g.2 || g.2.toList == o.toList
def tyT (S : StP) (t : TmR) : Bool := !emB (bndS S t)
def tyQ (S : StP) (q : EqP) : Bool := !emB (grpS S q).2 || q.2.2.all (tyT S)
/-- the fourth one -/
def typB (S : StP) : Bool := !S.V.any emB || (!emB (ordS S) && (S.G.all (tyG (ordS S)) && S.Q.all (tyQ S)))
def rstE (S : StP) : Int := if manyB S = true then 6 else if elB S = true then (if typB S = true then 0 else 10) else 13
def lckE (S : StP) : Int := if formB S = true then rstE S else 3
def rdE (S : StP) (l : List (Bool × ByteArray)) : Int := if formB S = true ∧ l.all ivB = true then (if rstE S = 0 then (if l.length = S.V.length then 0 else 6) else rstE S) else 3
/-- integers -/
def zi (p : Bool × ByteArray) : Int := if p.1 = true then -(nv p.2 : Int) else (nv p.2 : Int)
def zm (c x : Bool × ByteArray) : Bool × ByteArray := (zb (zi c * zi x), zs (zi c * zi x))
def expsS (l : List (Bool × ByteArray)) (q : EqP) : List (Bool × ByteArray) := q.2.2.map fun t => zm t.2.2 (l.getD t.2.1.toNat (false, ⟨#[]⟩))
def imQ (S : StP) (l : List (Bool × ByteArray)) (q : EqP) : ByteArray := gpS (grpS S q).1 (grpS S q).2 (q.2.2.map (·.1)) (expsS l q)
/-- the products -/
def imS (S : StP) (l : List (Bool × ByteArray)) : List ByteArray := S.Q.map (imQ S l)
def inV (o : ByteArray) (b : ByteArray) (x : Bool × ByteArray) : Bool := if emB b = true then !x.1 && decide (nv x.2 < nv o) else decide (nv x.2 < nv b)
def inS (S : StP) (l : List (Bool × ByteArray)) : Bool := (S.V.zip l).all fun p => inV (ordS S) p.1 p.2
def holdS (S : StP) (l : List (Bool × ByteArray)) : Bool := inS S l && S.Q.all fun q => (imQ S l q).toList == q.2.1.toList
/-- what Images and Holds answer -/
def imgS (S : StP) (l : List (Bool × ByteArray)) : List ByteArray := if rdE S l = 0 then imS S l else []
def hldS (S : StP) (l : List (Bool × ByteArray)) : Bool := decide (rdE S l = 0) && holdS S l
end Go.Proofs.YtdlbnioidfhhcaaGreat

/- linear: form, sizes, order. -/
namespace Go.Proofs.YtdlbnioidfhhcaaGreat
open Go.RowKit Num
set_option maxRecDepth 20000
set_option linter.unusedVariables false
/-- a statement in a variable -/
def SXB (w : World) (b : Nat) (a : StA) (S : StM) : Prop := w.heap[b]? = some (.cells #[.slice a.ga S.G.length a.gc, .slice a.va S.V.length a.vc, .slice a.qa S.Q.length a.qc] 42 (0, 0))
/-- an equation in a variable -/
def QB (w : World) (b : Nat) (i : Int) (s : ByteArray) (v : Value) : Prop := w.heap[b]? = some (.cells #[.int .i64 i, .string s, v] 68 (0, 0))
/-- a term in a variable -/
def TmB (w : World) (b : Nat) (s : ByteArray) (i : Int) (g : Bool) (e : ByteArray) : Prop := w.heap[b]? = some (.cells #[.string s, .int .i64 i, .bool g, .string e] 94 (0, 0))
/-- a variable in a variable -/
def VrB (w : World) (b : Nat) (s : ByteArray) : Prop := w.heap[b]? = some (.cells #[.string s] 77 (0, 0))
section
variable {w w' : World} {b : Nat} {a : StA} {S : StM} {i : Int} {s e : ByteArray} {v : Value} {g : Bool} {K : Nat}
theorem SXB.lt (h : SXB w b a S) : b < w.heap.size := (Array.getElem?_eq_some_iff.1 h).1
theorem SXB.c0 (h : SXB w b a S) : w.cell? ⟨b, 0, none⟩ = some (.slice a.ga S.G.length a.gc) := by rw [Lib.cell_of_heap h]; rfl
theorem SXB.c1 (h : SXB w b a S) : w.cell? ⟨b, 1, none⟩ = some (.slice a.va S.V.length a.vc) := by rw [Lib.cell_of_heap h]; rfl
theorem SXB.c2 (h : SXB w b a S) : w.cell? ⟨b, 2, none⟩ = some (.slice a.qa S.Q.length a.qc) := by rw [Lib.cell_of_heap h]; rfl
theorem SXB.new (w : World) (a : StA) (S : StM) : SXB (w.alloc (.cells #[.slice a.ga S.G.length a.gc, .slice a.va S.V.length a.vc, .slice a.qa S.Q.length a.qc] 42)) w.heap.size a S := heap_alloc_new w _
theorem SXB.below (h : SXB w b a S) (hb : Below K w w') (hK : b < K) : SXB w' b a S := (hb.block b hK).trans h
theorem SXB.drew (h : SXB w b a S) : SXB w.drew b a S := h
theorem QB.lt (h : QB w b i s v) : b < w.heap.size := (Array.getElem?_eq_some_iff.1 h).1
theorem QB.c0 (h : QB w b i s v) : w.cell? ⟨b, 0, none⟩ = some (.int .i64 i) := by rw [Lib.cell_of_heap h]; rfl
theorem QB.c1 (h : QB w b i s v) : w.cell? ⟨b, 1, none⟩ = some (.string s) := by rw [Lib.cell_of_heap h]; rfl
theorem QB.c2 (h : QB w b i s v) : w.cell? ⟨b, 2, none⟩ = some v := by rw [Lib.cell_of_heap h]; rfl
theorem QB.new (w : World) (i : Int) (s : ByteArray) (v : Value) : QB (w.alloc (.cells #[.int .i64 i, .string s, v] 68)) w.heap.size i s v := heap_alloc_new w _
theorem QB.below (h : QB w b i s v) (hb : Below K w w') (hK : b < K) : QB w' b i s v := (hb.block b hK).trans h
theorem TmB.lt (h : TmB w b s i g e) : b < w.heap.size := (Array.getElem?_eq_some_iff.1 h).1
theorem TmB.c0 (h : TmB w b s i g e) : w.cell? ⟨b, 0, none⟩ = some (.string s) := by rw [Lib.cell_of_heap h]; rfl
theorem TmB.c1 (h : TmB w b s i g e) : w.cell? ⟨b, 1, none⟩ = some (.int .i64 i) := by rw [Lib.cell_of_heap h]; rfl
theorem TmB.c2 (h : TmB w b s i g e) : w.cell? ⟨b, 2, none⟩ = some (.bool g) := by rw [Lib.cell_of_heap h]; rfl
theorem TmB.c3 (h : TmB w b s i g e) : w.cell? ⟨b, 3, none⟩ = some (.string e) := by rw [Lib.cell_of_heap h]; rfl
theorem TmB.new (w : World) (s : ByteArray) (i : Int) (g : Bool) (e : ByteArray) : TmB (w.alloc (.cells #[.string s, .int .i64 i, .bool g, .string e] 94)) w.heap.size s i g e := heap_alloc_new w _
theorem TmB.below (h : TmB w b s i g e) (hb : Below K w w') (hK : b < K) : TmB w' b s i g e := (hb.block b hK).trans h
theorem VrB.lt (h : VrB w b s) : b < w.heap.size := (Array.getElem?_eq_some_iff.1 h).1
theorem VrB.c0 (h : VrB w b s) : w.cell? ⟨b, 0, none⟩ = some (.string s) := by rw [Lib.cell_of_heap h]; rfl
theorem VrB.new (w : World) (s : ByteArray) : VrB (w.alloc (.cells #[.string s] 77)) w.heap.size s := heap_alloc_new w _
theorem VrB.below (h : VrB w b s) (hb : Below K w w') (hK : b < K) : VrB w' b s := (hb.block b hK).trans h
end
theorem ivalidW {g : Bool} {s : ByteArray} {b : Bool} (h : ivB (g, s) = b) : ∀ w, Calls Tryz.prog 52 #[.agg #[.bool g, .string s]] w fun e w' => e = .returned (.bool b) ∧ Below w.heap.size w w' := fun w => (ivalid_any g s w).mono fun _ _ ⟨h1, h2⟩ => ⟨by rw [h1, ← h]; rfl, h2⟩
theorem nvalidQ {s : ByteArray} {b : Bool} (h : validB s = b) : ∀ w, Calls Tryz.prog 36 #[.string s] w fun e w' => e = .returned (.bool b) ∧ w = w' := fun w => (Valid_any s w).mono fun _ _ ⟨h1, h2⟩ => ⟨by rw [h1, h], h2⟩
theorem StM.pl_Q (S : StM) : S.pl.Q = S.Q.map eqp := rfl
theorem formB_pl (S : StM) : formB S.pl = (S.G.all fmG && (S.V.all validB && S.Q.all (fun q => fmQ S.G.length S.V.length (eqp q)))) := by
  unfold formB StM.pl
  simp only [List.all_map]
  rfl
theorem fmQ_eq (m n : Nat) (i : Int) (T : ByteArray) (ta : Option Addr) (tc : Nat) (L : List TmR) : fmQ m n (eqp (i, T, ta, tc, L)) = (decide (0 ≤ i) && (decide (i < (m : Int)) && (validB T && L.all (fmT n)))) := rfl
theorem fmT_eq (n : Nat) (s : ByteArray) (u : Int) (g : Bool) (E : ByteArray) : fmT n (s, u, g, E) = (decide (0 ≤ u) && (decide (u < (n : Int)) && (validB s && ivB (g, E)))) := rfl
set_option maxHeartbeats 8000000 in
theorem form_any (a : StA) (S : StM) (w : World) (hS : SS w a S) (hok : S.ok) :
    Calls Tryz.prog 76 #[.agg #[.slice a.ga S.G.length a.gc, .slice a.va S.V.length a.vc, .slice a.qa S.Q.length a.qc]] w fun e w' => e = .returned (.int .i64 (if formB S.pl = true then 0 else 3)) ∧ Below w.heap.size w w' := by
  rw [formB_pl]
  have hb := (Below.refl _ w).alloc (Nat.le_refl _) (.cells #[.slice a.ga S.G.length a.gc, .slice a.va S.V.length a.vc, .slice a.qa S.Q.length a.qc] 42)
  have hX := SXB.new w a S
  have hS0 := hS.below hb (Nat.le_refl _)
  obtain ⟨ga, gc, va, vc, qa, qc⟩ := a
  obtain ⟨G, W, Q⟩ := S
  simp only at hb hX hS0 ⊢
  have HG := Lib.hid hS0.g
  have HV := Lib.hid hS0.v
  have HQ := Lib.hid hS0.q
  have hX0 := hX.c0
  have hX1 := hX.c1
  have hX2 := hX.c2
  have l1 : G.length ≤ maxLen := hok.gl
  have l2 : W.length ≤ maxLen := hok.vl
  have l3 : Q.length ≤ maxLen := hok.ql
  have l4 : Hid (∀ q ∈ Q, q.2.2.2.2.length ≤ maxLen) := fun q hq => (hok.q q hq).2.2.1
  simp only at HG HV HQ hX0 hX1 hX2
  unfold maxLen at l1 l2 l3 l4
  clear hS hS0 hok
  obtain ⟨ng, hng⟩ : ∃ n, G.length = n := ⟨_, rfl⟩
  obtain ⟨nw, hnv⟩ : ∃ n, W.length = n := ⟨_, rfl⟩
  obtain ⟨nq, hnq⟩ : ∃ n, Q.length = n := ⟨_, rfl⟩
  simp only [hng, hnv, hnq] at hb hX0 hX1 hX2 l1 l2 l3 HG HV HQ ⊢
  have HNG := Lib.hid hng
  have HNV := Lib.hid hnv
  have HNQ := Lib.hid hnq
  obtain ⟨R2, hR2⟩ : ∃ R, Q.all (fun q => fmQ ng nw (eqp q)) = R := ⟨_, rfl⟩
  obtain ⟨R1, hR1⟩ : ∃ R, (W.all validB && R2) = R := ⟨_, rfl⟩
  rw [hR2, hR1]
  obtain ⟨V, hV⟩ : ∃ V, (G.all fmG && R1) = V := ⟨_, rfl⟩
  rw [hV]
  have H0 : Hid (((G.drop 0).all fmG && R1) = V) := hV
  have H1 : Hid (((W.drop 0).all validB && R2) = R1) := hR1
  have H2 : Hid ((Q.drop 0).all (fun q => fmQ ng nw (eqp q)) = R2) := hR2
  clear hng hnv hnq hR2 hR1 hV hX
  go_enter Tryz.func76, Tryz.ntmps76
  go_wp2_with fail
  generalize World.alloc _ _ = w0 at hb hX0 hX1 hX2 HG HV HQ ⊢
  go_wp2_with fail
  go_loopw [14] (fun v14 wr => ∃ k : Nat, k ≤ ng ∧ v14 = .int .i64 (k : Int) ∧ Hid (((G.drop k).all fmG && R1) = V) ∧ Below w0.heap.size w0 wr) (fun v14 _ => ng - (intOf v14).toNat)
  case atStart => exact ⟨0, by omega, rfl, H0, Below.refl _ _⟩
  case round =>
    clear H0
    obtain ⟨k, hk, rfl, hP, hB⟩ := hrel
    have hbw := hb.trans (hB.mono hb.size)
    have d0 := cells_keepL hB (Nat.le_refl _) _ _ hX0
    have d1 := cells_keepL hB (Nat.le_refl _) _ _ hX1
    have d2 := cells_keepL hB (Nat.le_refl _) _ _ hX2
    by_cases hlt : k < ng
    · have hkG : k < G.length := by rw [HNG.out]; exact hlt
      obtain ⟨b, off, rfl, e0, e1⟩ := (HG.out.keep (cells_keepL hB (Nat.le_refl _))) k hkG
      have hw := hP.out
      rw [List.drop_eq_getElem_cons hkG, List.all_cons] at hw
      generalize G[k] = x at e0 e1 hw
      obtain ⟨M, O⟩ := x
      simp only [fmG] at e0 e1 hw
      have hN := GB.new wr M O
      have hbN := (Below.refl _ wr).alloc (Nat.le_refl _) (.cells #[.string M, .string O] 26)
      have hbe := hbw.trans (hbN.mono hbw.size)
      have hB2 := hB.trans (hbN.mono hB.size)
      have n0 := hN.c0
      have n1 := hN.c1
      clear hN hP hkG hB hbw
      cases hv : validB M
      · rw [hv] at hw
        obtain rfl : V = false := by rw [← hw]; rfl
        have HVM := Lib.hid (nvalidQ hv)
        clear hv hw
        go_wp2_with fail
        refine (HVM.out _).mono ?_; rintro e w1 ⟨rfl, rfl⟩
        go_wp2_with fail
        go_ret
        exact ⟨rfl, hbe⟩
      · have HVM := Lib.hid (nvalidQ hv)
        rw [hv, Bool.true_and] at hw
        clear hv
        cases hv : validB O
        · rw [hv] at hw
          obtain rfl : V = false := by rw [← hw]; rfl
          have HVO := Lib.hid (nvalidQ hv)
          clear hv hw
          go_wp2_with fail
          refine (HVM.out _).mono ?_; rintro e w1 ⟨rfl, rfl⟩
          go_wp2_with fail
          refine (HVO.out _).mono ?_; rintro e w1 ⟨rfl, rfl⟩
          go_wp2_with fail
          go_ret
          exact ⟨rfl, hbe⟩
        · have HVO := Lib.hid (nvalidQ hv)
          rw [hv, Bool.true_and] at hw
          have HW := Lib.hid hw
          clear hv hw
          go_wp2_with fail
          refine (HVM.out _).mono ?_; rintro e w1 ⟨rfl, rfl⟩
          go_wp2_with fail
          refine (HVO.out _).mono ?_; rintro e w1 ⟨rfl, rfl⟩
          go_wp2_with fail
          exact ⟨⟨k + 1, by omega, by go_num, HW, hB2⟩, by simp [intOf]; omega⟩
    · obtain rfl : ng = k := by omega
      have hw := hP.out
      rw [List.drop_of_length_le (by rw [HNG.out]; omega)] at hw
      obtain rfl : R1 = V := hw
      have HV2 := Lib.hid (HV.out.keepL (cells_keepL hB (Nat.le_refl _)))
      have HQ2 := Lib.hid (HQ.out.keep (cells_keepL hB (Nat.le_refl _)))
      clear hP hX0 hX1 hX2 HV HQ hb hB HG
      go_wp2_with fail
      obtain ⟨wo1, rfl⟩ : ∃ wo : World, wo = wr := ⟨_, rfl⟩
      go_loopw [32] (fun v32 wq => ∃ k : Nat, k ≤ nw ∧ v32 = .int .i64 (k : Int) ∧ Hid (((W.drop k).all validB && R2) = R1) ∧ Below wo1.heap.size wo1 wq) (fun v32 _ => nw - (intOf v32).toNat)
      case atStart => exact ⟨0, by omega, rfl, H1, Below.refl _ _⟩
      case round =>
        clear H1
        obtain ⟨k, hk, rfl, hP, hB⟩ := hrel
        have hbq := hbw.trans (hB.mono hbw.size)
        have x0 := cells_keepL hB (Nat.le_refl _) _ _ d0
        have x1 := cells_keepL hB (Nat.le_refl _) _ _ d1
        have x2 := cells_keepL hB (Nat.le_refl _) _ _ d2
        by_cases hlt : k < nw
        · have hkG : k < W.length := by rw [HNV.out]; exact hlt
          obtain ⟨b, off, rfl, e0⟩ := (HV2.out.keepL (cells_keepL hB (Nat.le_refl _))) k hkG
          have hw := hP.out
          rw [List.drop_eq_getElem_cons hkG, List.all_cons] at hw
          generalize W[k] = x at e0 hw
          have hN := VrB.new wr x
          have hbN := (Below.refl _ wr).alloc (Nat.le_refl _) (.cells #[.string x] 77)
          have hbe := hbq.trans (hbN.mono hbq.size)
          have hB2 := hB.trans (hbN.mono hB.size)
          have n0 := hN.c0
          clear hN hP hkG hB hbw
          cases hv : validB x
          · rw [hv] at hw
            obtain rfl : R1 = false := by rw [← hw]; rfl
            have HVM := Lib.hid (nvalidQ hv)
            clear hv hw
            go_wp2_with fail
            refine (HVM.out _).mono ?_; rintro e w1 ⟨rfl, rfl⟩
            go_wp2_with fail
            go_ret
            exact ⟨rfl, hbe⟩
          · have HVM := Lib.hid (nvalidQ hv)
            rw [hv, Bool.true_and] at hw
            have HW := Lib.hid hw
            clear hv hw
            go_wp2_with fail
            refine (HVM.out _).mono ?_; rintro e w1 ⟨rfl, rfl⟩
            go_wp2_with fail
            exact ⟨⟨k + 1, by omega, by go_num, HW, hB2⟩, by simp [intOf]; omega⟩
        · obtain rfl : nw = k := by omega
          have hw := hP.out
          rw [List.drop_of_length_le (by rw [HNV.out]; omega)] at hw
          obtain rfl : R2 = R1 := hw
          have HQ3 := Lib.hid (HQ2.out.keep (cells_keepL hB (Nat.le_refl _)))
          clear hP HV2 HQ2 d0 d1 d2 hbw hB
          go_wp2_with fail
          obtain ⟨wo2, rfl⟩ : ∃ wo : World, wo = wr := ⟨_, rfl⟩
          go_loopw [44] (fun v44 we => ∃ k : Nat, k ≤ nq ∧ v44 = .int .i64 (k : Int) ∧ Hid ((Q.drop k).all (fun q => fmQ ng nw (eqp q)) = R2) ∧ Below wo2.heap.size wo2 we) (fun v44 _ => nq - (intOf v44).toNat)
          case atStart => exact ⟨0, by omega, rfl, H2, Below.refl _ _⟩
          case round =>
            clear H2
            obtain ⟨k, hk, rfl, hP, hB⟩ := hrel
            have hbe := hbq.trans (hB.mono hbq.size)
            have d0 := cells_keepL hB (Nat.le_refl _) _ _ x0
            have d1 := cells_keepL hB (Nat.le_refl _) _ _ x1
            have d2 := cells_keepL hB (Nat.le_refl _) _ _ x2
            by_cases hlt : k < nq
            · have hkG : k < Q.length := by rw [HNQ.out]; exact hlt
              have hlx := l4.out _ (List.getElem_mem hkG)
              obtain ⟨b, off, rfl, e0, e1, e2, hT⟩ := (HQ3.out.keep (cells_keepL hB (Nat.le_refl _))) k hkG
              have hw := hP.out
              rw [List.drop_eq_getElem_cons hkG, List.all_cons] at hw
              generalize Q[k] = x at e0 e1 e2 hT hlx hw
              obtain ⟨i, T, ta, tc, L⟩ := x
              rw [fmQ_eq] at hw
              simp only at e0 e1 e2 hT hlx
              obtain ⟨nt, hnt⟩ : ∃ n, L.length = n := ⟨_, rfl⟩
              rw [hnt] at e2 hlx
              have HNT := Lib.hid hnt
              have hN := QB.new wr i T (.slice ta nt tc)
              have hbN := (Below.refl _ wr).alloc (Nat.le_refl _) (.cells #[.int .i64 i, .string T, .slice ta nt tc] 68)
              have hbf := hbe.trans (hbN.mono hbe.size)
              have hB2 := hB.trans (hbN.mono hB.size)
              have n0 := hN.c0
              have n1 := hN.c1
              have n2 := hN.c2
              have HT := Lib.hid (hT.keep (cells_keepL hbN (Nat.le_refl _)))
              have y0 := cells_keepL hbN (Nat.le_refl _) _ _ d0
              have y1 := cells_keepL hbN (Nat.le_refl _) _ _ d1
              clear hN hP hkG hB hbe hT d0 d1 x0 x1 x2 hnt
              by_cases t1 : i < 0
              · obtain rfl : R2 = false := by rw [← hw, decide_eq_false (show ¬ 0 ≤ i by omega)]; rfl
                have e3 : decide (i < 0) = true := decide_eq_true t1
                clear hw
                go_wp2_with fail
                go_ret
                exact ⟨rfl, hbf⟩
              have e3 : decide (i < 0) = false := decide_eq_false t1
              by_cases t2 : (ng : Int) ≤ i
              · obtain rfl : R2 = false := by rw [← hw, decide_eq_false (show ¬ i < (ng : Int) by omega)]; simp
                have e4 : decide ((ng : Int) ≤ i) = true := decide_eq_true t2
                clear hw
                go_wp2_with fail
                go_ret
                exact ⟨rfl, hbf⟩
              have e4 : decide ((ng : Int) ≤ i) = false := decide_eq_false t2
              rw [decide_eq_true (show 0 ≤ i by omega), decide_eq_true (show i < (ng : Int) by omega), Bool.true_and, Bool.true_and] at hw
              cases hv : validB T
              · rw [hv] at hw
                obtain rfl : R2 = false := by rw [← hw]; rfl
                have HVM := Lib.hid (nvalidQ hv)
                clear hv hw
                go_wp2_with fail
                refine (HVM.out _).mono ?_; rintro e w1 ⟨rfl, rfl⟩
                go_wp2_with fail
                go_ret
                exact ⟨rfl, hbf⟩
              have HVM := Lib.hid (nvalidQ hv)
              rw [hv, Bool.true_and] at hw
              obtain ⟨R3, hR3⟩ : ∃ R, ((Q.drop (k + 1)).all fun q => fmQ ng nw (eqp q)) = R := ⟨_, rfl⟩
              have HR3 := Lib.hid hR3
              have H3 : Hid (((L.drop 0).all (fmT nw) && R3) = R2) := by
                show _ = _
                rw [← hR3]
                exact hw
              clear hv hw hR3
              go_wp2_with fail
              refine (HVM.out _).mono ?_; rintro e w1 ⟨rfl, rfl⟩
              go_wp2_with fail
              generalize World.alloc _ _ = w5 at hbN hbf hB2 n0 n1 n2 HT y0 y1 ⊢
              go_loopw [68] (fun v68 wt => ∃ j : Nat, j ≤ nt ∧ v68 = .int .i64 (j : Int) ∧ Hid (((L.drop j).all (fmT nw) && R3) = R2) ∧ Below w5.heap.size w5 wt) (fun v68 _ => nt - (intOf v68).toNat)
              case atStart => exact ⟨0, by omega, rfl, H3, Below.refl _ _⟩
              case round =>
                clear H3
                obtain ⟨j, hj, rfl, hP, hB⟩ := hrel
                have hbt := hbf.trans (hB.mono hbf.size)
                have z0 := cells_keepL hB (Nat.le_refl _) _ _ y0
                have z1 := cells_keepL hB (Nat.le_refl _) _ _ y1
                by_cases hlj : j < nt
                · have hjL : j < L.length := by rw [HNT.out]; exact hlj
                  obtain ⟨b, off, rfl, e5, e6, e7, e8⟩ := (HT.out.keep (cells_keepL hB (Nat.le_refl _))) j hjL
                  have hw := hP.out
                  rw [List.drop_eq_getElem_cons hjL, List.all_cons] at hw
                  generalize L[j] = x at e5 e6 e7 e8 hw
                  obtain ⟨s, u, g, E⟩ := x
                  rw [fmT_eq] at hw
                  simp only at e5 e6 e7 e8
                  have hN := TmB.new wr s u g E
                  have hbM := (Below.refl _ wr).alloc (Nat.le_refl _) (.cells #[.string s, .int .i64 u, .bool g, .string E] 94)
                  have hbg := hbt.trans (hbM.mono hbt.size)
                  have hB3 := hB.trans (hbM.mono hB.size)
                  have m0 := hN.c0
                  have m1 := hN.c1
                  have m2 := hN.c2
                  have m3 := hN.c3
                  have z2 := cells_keepL hbM (Nat.le_refl _) _ _ z0
                  have z3 := cells_keepL hbM (Nat.le_refl _) _ _ z1
                  clear hN hP hjL hB hbt n0 n1 n2 hbN hbf hB2 y0 y1 z0 z1
                  by_cases t3 : u < 0
                  · obtain rfl : R2 = false := by rw [← hw, decide_eq_false (show ¬ 0 ≤ u by omega)]; rfl
                    have e9 : decide (u < 0) = true := decide_eq_true t3
                    clear hw
                    go_wp2_with fail
                    go_ret
                    exact ⟨rfl, hbg⟩
                  have e9 : decide (u < 0) = false := decide_eq_false t3
                  by_cases t4 : (nw : Int) ≤ u
                  · obtain rfl : R2 = false := by rw [← hw, decide_eq_false (show ¬ u < (nw : Int) by omega)]; simp
                    have e10 : decide ((nw : Int) ≤ u) = true := decide_eq_true t4
                    clear hw
                    go_wp2_with fail
                    go_ret
                    exact ⟨rfl, hbg⟩
                  have e10 : decide ((nw : Int) ≤ u) = false := decide_eq_false t4
                  rw [decide_eq_true (show 0 ≤ u by omega), decide_eq_true (show u < (nw : Int) by omega), Bool.true_and, Bool.true_and] at hw
                  cases hv : validB s
                  · rw [hv] at hw
                    obtain rfl : R2 = false := by rw [← hw]; rfl
                    have HVS := Lib.hid (nvalidQ hv)
                    clear hv hw
                    go_wp2_with fail
                    refine (HVS.out _).mono ?_; rintro e w1 ⟨rfl, rfl⟩
                    go_wp2_with fail
                    go_ret
                    exact ⟨rfl, hbg⟩
                  have HVS := Lib.hid (nvalidQ hv)
                  rw [hv, Bool.true_and] at hw
                  clear hv
                  cases hv : ivB (g, E)
                  · rw [hv] at hw
                    obtain rfl : R2 = false := by rw [← hw]; rfl
                    have HVI := Lib.hid (ivalidW hv)
                    clear hv hw
                    go_wp2_with fail
                    refine (HVS.out _).mono ?_; rintro e w1 ⟨rfl, rfl⟩
                    go_wp2_with fail
                    refine (HVI.out _).mono ?_; rintro e w1 ⟨rfl, b1⟩
                    have hbh := hbg.trans (b1.mono hbg.size)
                    go_wp2_with fail
                    go_ret
                    exact ⟨rfl, hbh⟩
                  have HVI := Lib.hid (ivalidW hv)
                  rw [hv, Bool.true_and] at hw
                  have HW := Lib.hid hw
                  clear hv hw
                  go_wp2_with fail
                  refine (HVS.out _).mono ?_; rintro e w1 ⟨rfl, rfl⟩
                  go_wp2_with fail
                  refine (HVI.out _).mono ?_; rintro e w1 ⟨rfl, b1⟩
                  have hB4 := hB3.trans (b1.mono hB3.size)
                  go_wp2_with fail
                  exact ⟨⟨j + 1, by omega, by go_num, HW, hB4⟩, by simp [intOf]; omega⟩
                · obtain rfl : nt = j := by omega
                  have hw := hP.out
                  rw [List.drop_of_length_le (by rw [HNT.out]; omega)] at hw
                  have hR : R3 = R2 := hw
                  have hz : Hid (((Q.drop (k + 1)).all fun q => fmQ ng nw (eqp q)) = R2) := by rw [← hR]; exact HR3
                  have hB5 := hB2.trans (hB.mono hB2.size)
                  clear hP hR
                  go_wp2_with fail
                  exact ⟨⟨k + 1, by omega, by go_num, hz, hB5⟩, by simp [intOf]; omega⟩
            · obtain rfl : nq = k := by omega
              have hw := hP.out
              rw [List.drop_of_length_le (by rw [HNQ.out]; omega)] at hw
              obtain rfl : true = R2 := hw
              clear hP
              go_wp2_with fail
              go_ret
              exact ⟨rfl, hbe⟩
end Go.Proofs.YtdlbnioidfhhcaaGreat
