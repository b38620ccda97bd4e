/- Arguments that are structs, opened field by field. -/
import Derived.Test.YtoocpmmgoljncaaGreatPost
import Derived.ChangeArms
import Derived.WideShapes
namespace Go.Proofs.YtoocpmmgoljncaaGreat
open Go.RowKit Go.WideShapes Go.ChangeShapes Go.ChangeAt
set_option linter.unusedVariables false
set_option maxRecDepth 20000
section
variable {H : Type} {enc : TypeId × Value → H} {P : Program} {w : World} {base : Nat} {spare : Nat → Bool} {held : Bool} {t : TypeId} {cs : List Value} {x : DataW H × List MemPlace} {fs : Array Field} {f : Field} {j fuel : Nat}
theorem fld (ht : P.underlying t = some (.struct fs)) (hf : fs[j]? = some f) (h : DataW.trod enc P w base spare held fuel t cs = some x) :
    ∃ n y, DataW.trod enc P w base spare held n f.type ((cs.drop f.offset).take (P.cellsOf f.type)) = some y := by
  obtain ⟨xs, n, _, _, _, hlen, hg⟩ := DataW.trod_struct ht h
  have hj := hg j f hf
  have hlt : j < fs.size := (Array.getElem?_eq_some_iff.1 hf).1
  rw [List.getElem?_eq_getElem (by omega)] at hj
  exact ⟨n, _, hj⟩
theorem one_at {l : List Value} {o : Nat} {v : Value} (h : (l.drop o).take 1 = [v]) : l[o]? = some v := by
  have : ((l.drop o).take 1)[0]? = some v := by rw [h]; rfl
  rw [List.getElem?_take] at this
  simpa using this
theorem fld_string (ht : P.underlying t = some (.struct fs)) (hf : fs[j]? = some f) (hu : P.underlying f.type = some .string) (hc : P.cellsOf f.type = 1) (h : DataW.trod enc P w base spare held fuel t cs = some x) :
    ∃ s : ByteArray, cs[f.offset]? = some (.string s) ∧ s.size ≤ maxLen := by
  obtain ⟨n, y, hy⟩ := fld ht hf h
  obtain ⟨s, hs, _, hz⟩ := DataW.trod_string hu hy
  rw [hc] at hs
  exact ⟨s, one_at hs, hz⟩
theorem fld_bool (ht : P.underlying t = some (.struct fs)) (hf : fs[j]? = some f) (hu : P.underlying f.type = some .bool) (hc : P.cellsOf f.type = 1) (h : DataW.trod enc P w base spare held fuel t cs = some x) :
    ∃ b : Bool, cs[f.offset]? = some (.bool b) := by
  obtain ⟨n, y, hy⟩ := fld ht hf h
  obtain ⟨s, hs, _⟩ := DataW.trod_bool hu hy
  rw [hc] at hs
  exact ⟨s, one_at hs⟩
theorem fld_int {k : IntKind} (ht : P.underlying t = some (.struct fs)) (hf : fs[j]? = some f) (hu : P.underlying f.type = some (.int k)) (hc : P.cellsOf f.type = 1) (h : DataW.trod enc P w base spare held fuel t cs = some x) :
    ∃ n : Int, cs[f.offset]? = some (.int k n) ∧ (Lit.int k n).wf = true := by
  obtain ⟨n, y, hy⟩ := fld ht hf h
  obtain ⟨s, hs, _, hz⟩ := DataW.trod_int hu hy
  rw [hc] at hs
  exact ⟨s, one_at hs, hz⟩
theorem sub_at {l : List Value} {o k i : Nat} {v : Value} (h : ((l.drop o).take k)[i]? = some v) : l[o + i]? = some v := by
  rw [List.getElem?_take] at h
  split at h
  · simpa using h
  · cases h
end
/-- an argument of the type Numbers -/
theorem open_M {H : Type} {enc : TypeId × Value → H} {W : World} {base : Nat} {v : Value} {d : DataW H} {p : List MemPlace}
    (hv : Value.okWide Tryz.prog W .any base 26 v) (h : DataW.Trod enc Tryz.prog W 0 (fun _ => true) true 26 v d p) :
    ∃ (A B : ByteArray) (ng : Bool) (E M : ByteArray), v = .agg #[.string A, .string B, .bool ng, .string E, .string M] ∧ A.size ≤ maxLen ∧ B.size ≤ maxLen ∧ E.size ≤ maxLen ∧ M.size ≤ maxLen := by
  obtain ⟨cs, rfl, hsz⟩ := okWide_struct Tryz.underlying26 hv
  obtain ⟨l⟩ := cs
  obtain ⟨fuel, hf⟩ := h
  have hf' : DataW.trod enc Tryz.prog W 0 (fun _ => true) true fuel 26 l = some (d, p) := hf
  obtain ⟨A, eA, zA⟩ := fld_string (j := 0) Tryz.underlying26 rfl Tryz.underlying22 (by kernel_rfl) hf'
  obtain ⟨B, eB, zB⟩ := fld_string (j := 1) Tryz.underlying26 rfl Tryz.underlying22 (by kernel_rfl) hf'
  obtain ⟨M, eM, zM⟩ := fld_string (j := 3) Tryz.underlying26 rfl Tryz.underlying22 (by kernel_rfl) hf'
  obtain ⟨n, y, hy⟩ := fld (j := 2) Tryz.underlying26 rfl hf'
  obtain ⟨g, eg⟩ := fld_bool (j := 0) Tryz.underlying24 rfl Tryz.underlying4 (by kernel_rfl) hy
  obtain ⟨E, eE, zE⟩ := fld_string (j := 1) Tryz.underlying24 rfl Tryz.underlying22 (by kernel_rfl) hy
  have eg := sub_at eg
  have eE := sub_at eE
  have hl : l.length = 5 := hsz.trans (by kernel_rfl)
  refine ⟨A, B, g, E, M, ?_, zA, zB, zE, zM⟩
  match l, hl with
  | [c0, c1, c2, c3, c4], _ =>
    simp at eA eB eM eg eE
    subst eA eB eM eg eE
    rfl
end Go.Proofs.YtoocpmmgoljncaaGreat
