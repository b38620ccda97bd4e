import Derived.Test.YtdlbnioidfhhcaaGreatPost
import Derived.ChangeArms
import Derived.WideShapes
import Derived.Test.YtdlbnioidfhhcaaGreatPwA
import Derived.SliceStrings
import Derived.Deep.SlicePairs
/- Arguments that are structs, opened field by field. -/
namespace Go.Proofs.YtdlbnioidfhhcaaGreat
open Go.RowKit Go.WideShapes Go.ChangeShapes Go.ChangeAt
set_option linter.unusedVariables false
set_option maxRecDepth 20000
section
variable {H : Type} {enc : TypeId × Value → H} {P : Program} {w : World} {base : Nat} {spare : Nat → Bool} {held : Bool} {t : TypeId} {cs : List Value} {x : DataW H × List MemPlace} {fs : Array Field} {f : Field} {j fuel : Nat}
theorem fld (ht : P.underlying t = some (.struct fs)) (hf : fs[j]? = some f) (h : DataW.trod enc P w base spare held fuel t cs = some x) :
    ∃ n y, DataW.trod enc P w base spare held n f.type ((cs.drop f.offset).take (P.cellsOf f.type)) = some y := by
  obtain ⟨xs, n, _, _, _, hlen, hg⟩ := DataW.trod_struct ht h
  have hj := hg j f hf
  have hlt : j < fs.size := (Array.getElem?_eq_some_iff.1 hf).1
  rw [List.getElem?_eq_getElem (by omega)] at hj
  exact ⟨n, _, hj⟩
theorem one_at {l : List Value} {o : Nat} {v : Value} (h : (l.drop o).take 1 = [v]) : l[o]? = some v := by
  have : ((l.drop o).take 1)[0]? = some v := by rw [h]; rfl
  rw [List.getElem?_take] at this
  simpa using this
theorem fld_string (ht : P.underlying t = some (.struct fs)) (hf : fs[j]? = some f) (hu : P.underlying f.type = some .string) (hc : P.cellsOf f.type = 1) (h : DataW.trod enc P w base spare held fuel t cs = some x) :
    ∃ s : ByteArray, cs[f.offset]? = some (.string s) ∧ s.size ≤ maxLen := by
  obtain ⟨n, y, hy⟩ := fld ht hf h
  obtain ⟨s, hs, _, hz⟩ := DataW.trod_string hu hy
  rw [hc] at hs
  exact ⟨s, one_at hs, hz⟩
theorem fld_bool (ht : P.underlying t = some (.struct fs)) (hf : fs[j]? = some f) (hu : P.underlying f.type = some .bool) (hc : P.cellsOf f.type = 1) (h : DataW.trod enc P w base spare held fuel t cs = some x) :
    ∃ b : Bool, cs[f.offset]? = some (.bool b) := by
  obtain ⟨n, y, hy⟩ := fld ht hf h
  obtain ⟨s, hs, _⟩ := DataW.trod_bool hu hy
  rw [hc] at hs
  exact ⟨s, one_at hs⟩
theorem fld_int {k : IntKind} (ht : P.underlying t = some (.struct fs)) (hf : fs[j]? = some f) (hu : P.underlying f.type = some (.int k)) (hc : P.cellsOf f.type = 1) (h : DataW.trod enc P w base spare held fuel t cs = some x) :
    ∃ n : Int, cs[f.offset]? = some (.int k n) ∧ (Lit.int k n).wf = true := by
  obtain ⟨n, y, hy⟩ := fld ht hf h
  obtain ⟨s, hs, _, hz⟩ := DataW.trod_int hu hy
  rw [hc] at hs
  exact ⟨s, one_at hs, hz⟩
theorem sub_at {l : List Value} {o k i : Nat} {v : Value} (h : ((l.drop o).take k)[i]? = some v) : l[o + i]? = some v := by
  rw [List.getElem?_take] at h
  split at h
  · simpa using h
  · cases h
end
end Go.Proofs.YtdlbnioidfhhcaaGreat

/- Arguments that are groups, slices of numbers or of integers, and pairs, opened. -/
namespace Go.Proofs.YtdlbnioidfhhcaaGreat
open Go.RowKit Go.WideShapes Go.ChangeShapes Go.ChangeAt Num
set_option linter.unusedVariables false
set_option maxRecDepth 20000
section
variable {H : Type} {enc : TypeId × Value → H} {P : Program}
theorem open_strs' {t e : TypeId} {W : World} {base : Nat} (ht : P.underlying t = some (.slice e)) (he : P.underlying e = some .string) (hc : P.cellsOf e = 1) {v : Value} {d : DataW H} {p : List MemPlace}
    (hv : Value.okWide P W .any base t v) (h : DataW.Trod enc P W 0 (fun _ => true) true t v d p) :
    ∃ (ao : Option Addr) (cm : Nat) (L : List ByteArray), v = .slice ao L.length cm ∧ L.length ≤ maxLen ∧ (∀ s ∈ L, s.size ≤ maxLen) ∧ NS W ao L := by
  obtain ⟨a0, len, cap, rfl⟩ := okWide_slice ht hv
  obtain ⟨fuel, hf⟩ := h
  rcases open_strings ht he hc hf with ⟨hcs, hx⟩ | ⟨a, len', cap', ss, hcs, _, hl, hm, hz, hx, hcell, hws⟩
  · simp [Value.cells] at hcs
    obtain ⟨rfl, rfl, rfl⟩ := hcs
    exact ⟨none, 0, [], rfl, by simp, by simp, fun k hk => by simp at hk⟩
  · simp [Value.cells] at hcs
    obtain ⟨rfl, rfl, rfl⟩ := hcs
    simp at hz
    have hlen : (ss.take len).length = len := by simp [hz]; omega
    refine ⟨some a, cap, ss.take len, by rw [hlen], by rw [hlen]; omega, fun s hs => hws s (List.mem_of_mem_take hs), fun k hk => ?_⟩
    rw [hlen] at hk
    have hk0 : 0 < ss.length := by omega
    obtain ⟨b, off, spot⟩ := a
    have hspot : spot = none := by simpa [Addr.add] using World.cell?_spot (hcell 0 hk0)
    subst hspot
    refine ⟨b, off, rfl, ?_⟩
    rw [← Go.WideShapes.add_plain, hcell k (by omega)]
    congr 2
    simp [List.getD_eq_getElem?_getD, show k < ss.length by omega]
/-- what cells hold -/
def bitOfV : Value → Bool | .bool b => b | _ => false
def strOfB : Value → ByteArray | .string s => s | _ => ⟨#[]⟩
theorem open_ints' {t e : TypeId} {f0 f1 : Field} {W : World} {base : Nat} (ht : P.underlying t = some (.slice e)) (he : P.underlying e = some (.struct #[f0, f1]))
    (ce : P.cellsOf e = 2) (o0 : f0.offset = 0) (o1 : f1.offset = 1) (c0 : P.cellsOf f0.type = 1) (c1 : P.cellsOf f1.type = 1) (u0 : P.underlying f0.type = some .bool) (u1 : P.underlying f1.type = some .string) {v : Value} {d : DataW H} {p : List MemPlace}
    (hv : Value.okWide P W .any base t v) (h : DataW.Trod enc P W 0 (fun _ => true) true t v d p) :
    ∃ (ao : Option Addr) (cm : Nat) (L : List (Bool × ByteArray)), v = .slice ao L.length cm ∧ L.length ≤ maxLen ∧ (∀ s ∈ L, s.2.size ≤ maxLen) ∧ IS W ao L := by
  obtain ⟨a0, len, cap, rfl⟩ := okWide_slice ht hv
  obtain ⟨fuel, hf⟩ := h
  rcases Go.Deep.open_slice_pairs ht he ce o0 o1 c0 c1 hf with ⟨hcs, hx⟩ | ⟨a, len', cap', m, n, V0, V1, D0, D1, P0, P1, hcs, _, hl, hm, hmm, hx, hi⟩
  · simp [Value.cells] at hcs
    obtain ⟨rfl, rfl, rfl⟩ := hcs
    exact ⟨none, 0, [], rfl, by simp, by simp, fun k hk => by simp at hk⟩
  · simp [Value.cells] at hcs
    obtain ⟨rfl, rfl, rfl⟩ := hcs
    simp at hmm
    subst hmm
    have each : ∀ i, i < m → ∃ b s, V0 i = .bool b ∧ V1 i = .string s ∧ s.size ≤ maxLen := by
      intro i hik
      obtain ⟨_, _, h3, h4⟩ := hi i hik
      obtain ⟨b, hb, _⟩ := DataW.trod_bool u0 h3
      obtain ⟨s, hs, _, hz⟩ := DataW.trod_string u1 h4
      simp at hb hs
      exact ⟨b, s, hb, hs, hz⟩
    have hlen : ((List.range len).map fun i => (bitOfV (V0 i), strOfB (V1 i))).length = len := by simp
    refine ⟨some a, m, (List.range len).map fun i => (bitOfV (V0 i), strOfB (V1 i)), by rw [hlen], by rw [hlen]; omega, ?_, ?_⟩
    · intro s hs
      rw [List.mem_map] at hs
      obtain ⟨i, hi', rfl⟩ := hs
      obtain ⟨b, s, _, e2, hz⟩ := each i (by have := List.mem_range.1 hi'; omega)
      simp only [e2, strOfB]
      exact hz
    · intro k hk
      rw [hlen] at hk
      obtain ⟨h1, h2, _, _⟩ := hi k (by omega)
      obtain ⟨b', off, spot⟩ := a
      have hspot : spot = none := by
        have := World.cell?_spot (hi 0 (by omega)).1
        simpa [Addr.add] using this
      subst hspot
      obtain ⟨b, s, e1, e2, _⟩ := each k (by omega)
      rw [Go.WideShapes.add_plain] at h1 h2
      refine ⟨b', off, rfl, ?_, ?_⟩
      · rw [h1, e1]; simp [e1, bitOfV]
      · rw [Nat.add_assoc, h2, e2]; simp [e2, strOfB]
end
section
variable {H : Type} {enc : TypeId × Value → H} {W : World} {base : Nat} {v : Value} {d : DataW H} {p : List MemPlace}
theorem open_NS (hv : Value.okWide Tryz.prog W .any base 31 v) (h : DataW.Trod enc Tryz.prog W 0 (fun _ => true) true 31 v d p) :
    ∃ (ao : Option Addr) (cm : Nat) (L : List ByteArray), v = .slice ao L.length cm ∧ L.length ≤ maxLen ∧ (∀ s ∈ L, s.size ≤ maxLen) ∧ NS W ao L :=
  open_strs' Tryz.underlying31 Tryz.underlying22 (by kernel_rfl) hv h
theorem open_IS (hv : Value.okWide Tryz.prog W .any base 32 v) (h : DataW.Trod enc Tryz.prog W 0 (fun _ => true) true 32 v d p) :
    ∃ (ao : Option Addr) (cm : Nat) (L : List (Bool × ByteArray)), v = .slice ao L.length cm ∧ L.length ≤ maxLen ∧ (∀ s ∈ L, s.2.size ≤ maxLen) ∧ IS W ao L :=
  open_ints' Tryz.underlying32 Tryz.underlying50 (by kernel_rfl) rfl rfl (by kernel_rfl) (by kernel_rfl) Tryz.underlying4 Tryz.underlying22 hv h
/-- an argument of the type Group -/
theorem open_G (hv : Value.okWide Tryz.prog W .any base 26 v) (h : DataW.Trod enc Tryz.prog W 0 (fun _ => true) true 26 v d p) :
    ∃ (M O : ByteArray), v = .agg #[.string M, .string O] ∧ M.size ≤ maxLen ∧ O.size ≤ maxLen := by
  obtain ⟨cs, rfl, hsz⟩ := okWide_struct Tryz.underlying26 hv
  obtain ⟨l⟩ := cs
  obtain ⟨fuel, hf⟩ := h
  have hf' : DataW.trod enc Tryz.prog W 0 (fun _ => true) true fuel 26 l = some (d, p) := hf
  obtain ⟨A, eA, zA⟩ := fld_string (j := 0) Tryz.underlying26 rfl Tryz.underlying22 (by kernel_rfl) hf'
  obtain ⟨B, eB, zB⟩ := fld_string (j := 1) Tryz.underlying26 rfl Tryz.underlying22 (by kernel_rfl) hf'
  have hl : l.length = 2 := hsz.trans (by kernel_rfl)
  refine ⟨A, B, ?_, zA, zB⟩
  match l, hl with
  | [c0, c1], _ =>
    simp at eA eB
    subst eA eB
    rfl
/-- an argument of the type Int -/
theorem open_I (hv : Value.okWide Tryz.prog W .any base 50 v) (h : DataW.Trod enc Tryz.prog W 0 (fun _ => true) true 50 v d p) :
    ∃ (g : Bool) (E : ByteArray), v = .agg #[.bool g, .string E] ∧ E.size ≤ maxLen := by
  obtain ⟨cs, rfl, hsz⟩ := okWide_struct Tryz.underlying50 hv
  obtain ⟨l⟩ := cs
  obtain ⟨fuel, hf⟩ := h
  have hf' : DataW.trod enc Tryz.prog W 0 (fun _ => true) true fuel 50 l = some (d, p) := hf
  obtain ⟨g, eg⟩ := fld_bool (j := 0) Tryz.underlying50 rfl Tryz.underlying4 (by kernel_rfl) hf'
  obtain ⟨E, eE, zE⟩ := fld_string (j := 1) Tryz.underlying50 rfl Tryz.underlying22 (by kernel_rfl) hf'
  have hl : l.length = 2 := hsz.trans (by kernel_rfl)
  refine ⟨g, E, ?_, zE⟩
  match l, hl with
  | [c0, c1], _ =>
    simp at eg eE
    subst eg eE
    rfl
theorem open_D2 (hv : Value.okWide Tryz.prog W .any base 149 v) (h : DataW.Trod enc Tryz.prog W 0 (fun _ => true) true 149 v d p) :
    ∃ (g : Bool) (E : ByteArray) (k : Bool) (F : ByteArray), v = .agg #[.bool g, .string E, .bool k, .string F] ∧ E.size ≤ maxLen ∧ F.size ≤ maxLen := by
  obtain ⟨cs, rfl, hsz⟩ : ∃ cs, v = .agg cs ∧ cs.size = Tryz.prog.cellsOf 149 := by
    simp only [Value.okWide, Tryz.underlying149] at hv
    obtain ⟨cs, h1, h2, _⟩ := hv
    exact ⟨cs, h1, h2⟩
  obtain ⟨l⟩ := cs
  obtain ⟨fuel, hf⟩ := h
  have hf' : DataW.trod enc Tryz.prog W 0 (fun _ => true) true fuel 149 l = some (d, p) := hf
  obtain ⟨xs, m, _, _, _, hlen, hg⟩ := DataW.trod_array Tryz.underlying149 hf'
  have hc : Tryz.prog.cellsOf 50 = 2 := by kernel_rfl
  have y0 := hg 0 (by omega)
  have y1 := hg 1 (by omega)
  rw [hc, List.getElem?_eq_getElem (by omega)] at y0 y1
  obtain ⟨g, eg⟩ := fld_bool (j := 0) Tryz.underlying50 rfl Tryz.underlying4 (by kernel_rfl) y0
  obtain ⟨E, eE, zE⟩ := fld_string (j := 1) Tryz.underlying50 rfl Tryz.underlying22 (by kernel_rfl) y0
  obtain ⟨k, ek⟩ := fld_bool (j := 0) Tryz.underlying50 rfl Tryz.underlying4 (by kernel_rfl) y1
  obtain ⟨F, eF, zF⟩ := fld_string (j := 1) Tryz.underlying50 rfl Tryz.underlying22 (by kernel_rfl) y1
  have eg := sub_at eg
  have eE := sub_at eE
  have ek := sub_at ek
  have eF := sub_at eF
  have hl : l.length = 4 := hsz.trans (by kernel_rfl)
  refine ⟨g, E, k, F, ?_, zE, zF⟩
  match l, hl with
  | [c0, c1, c2, c3], _ =>
    simp at eg eE ek eF
    subst eg eE ek eF
    rfl
end
end Go.Proofs.YtdlbnioidfhhcaaGreat
