/- Arguments that are structs, opened field by field. -/
import Derived.Test.YtjminjliomffaaaDoorPost
import Derived.ChangeArms
import Derived.WideShapes
namespace Go.Proofs.YtjminjliomffaaaDoor
open Go.RowKit Go.WideShapes Go.ChangeShapes Go.ChangeAt
set_option linter.unusedVariables false
set_option maxRecDepth 20000
section
variable {H : Type} {enc : TypeId × Value → H} {P : Program} {w : World} {base : Nat} {spare : Nat → Bool} {held : Bool} {t : TypeId} {cs : List Value} {x : DataW H × List MemPlace} {fs : Array Field} {f : Field} {j fuel : Nat}
theorem fld (ht : P.underlying t = some (.struct fs)) (hf : fs[j]? = some f) (h : DataW.trod enc P w base spare held fuel t cs = some x) :
    ∃ n y, DataW.trod enc P w base spare held n f.type ((cs.drop f.offset).take (P.cellsOf f.type)) = some y := by
  obtain ⟨xs, n, _, _, _, hlen, hg⟩ := DataW.trod_struct ht h
  have hj := hg j f hf
  have hlt : j < fs.size := (Array.getElem?_eq_some_iff.1 hf).1
  rw [List.getElem?_eq_getElem (by omega)] at hj
  exact ⟨n, _, hj⟩
theorem one_at {l : List Value} {o : Nat} {v : Value} (h : (l.drop o).take 1 = [v]) : l[o]? = some v := by
  have : ((l.drop o).take 1)[0]? = some v := by rw [h]; rfl
  rw [List.getElem?_take] at this
  simpa using this
theorem fld_string (ht : P.underlying t = some (.struct fs)) (hf : fs[j]? = some f) (hu : P.underlying f.type = some .string) (hc : P.cellsOf f.type = 1) (h : DataW.trod enc P w base spare held fuel t cs = some x) :
    ∃ s : ByteArray, cs[f.offset]? = some (.string s) ∧ s.size ≤ maxLen := by
  obtain ⟨n, y, hy⟩ := fld ht hf h
  obtain ⟨s, hs, _, hz⟩ := DataW.trod_string hu hy
  rw [hc] at hs
  exact ⟨s, one_at hs, hz⟩
theorem fld_bool (ht : P.underlying t = some (.struct fs)) (hf : fs[j]? = some f) (hu : P.underlying f.type = some .bool) (hc : P.cellsOf f.type = 1) (h : DataW.trod enc P w base spare held fuel t cs = some x) :
    ∃ b : Bool, cs[f.offset]? = some (.bool b) := by
  obtain ⟨n, y, hy⟩ := fld ht hf h
  obtain ⟨s, hs, _⟩ := DataW.trod_bool hu hy
  rw [hc] at hs
  exact ⟨s, one_at hs⟩
theorem fld_int {k : IntKind} (ht : P.underlying t = some (.struct fs)) (hf : fs[j]? = some f) (hu : P.underlying f.type = some (.int k)) (hc : P.cellsOf f.type = 1) (h : DataW.trod enc P w base spare held fuel t cs = some x) :
    ∃ n : Int, cs[f.offset]? = some (.int k n) ∧ (Lit.int k n).wf = true := by
  obtain ⟨n, y, hy⟩ := fld ht hf h
  obtain ⟨s, hs, _, hz⟩ := DataW.trod_int hu hy
  rw [hc] at hs
  exact ⟨s, one_at hs, hz⟩
theorem sub_at {l : List Value} {o k i : Nat} {v : Value} (h : ((l.drop o).take k)[i]? = some v) : l[o + i]? = some v := by
  rw [List.getElem?_take] at h
  split at h
  · simpa using h
  · cases h
end
end Go.Proofs.YtjminjliomffaaaDoor
