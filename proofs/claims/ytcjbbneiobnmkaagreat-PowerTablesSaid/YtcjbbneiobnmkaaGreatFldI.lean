/- An argument that is a pair of machine integers, opened. -/
import Derived.Test.YtcjbbneiobnmkaaGreatFldG
namespace Go.Proofs.YtcjbbneiobnmkaaGreat
open Go.RowKit Go.WideShapes Go.ChangeShapes Go.ChangeAt Num
set_option linter.unusedVariables false
set_option maxRecDepth 20000
section
variable {H : Type} {enc : TypeId × Value → H} {W : World} {base : Nat} {v : Value} {d : DataW H} {p : List MemPlace}
theorem open_I2 (hv : Value.okWide Tryz.prog W .any base 43 v) (h : DataW.Trod enc Tryz.prog W 0 (fun _ => true) true 43 v d p) :
    ∃ (x y : Int), v = .agg #[.int .i64 x, .int .i64 y] ∧ (Lit.int .i64 x).wf = true ∧ (Lit.int .i64 y).wf = true := by
  obtain ⟨cs, rfl, hsz⟩ : ∃ cs, v = .agg cs ∧ cs.size = Tryz.prog.cellsOf 43 := by
    simp only [Value.okWide, Tryz.underlying43] at hv
    obtain ⟨cs, h1, h2, _⟩ := hv
    exact ⟨cs, h1, h2⟩
  obtain ⟨l⟩ := cs
  obtain ⟨fuel, hf⟩ := h
  have hf' : DataW.trod enc Tryz.prog W 0 (fun _ => true) true fuel 43 l = some (d, p) := hf
  obtain ⟨xs, m, _, _, _, hlen, hg⟩ := DataW.trod_array Tryz.underlying43 hf'
  have hc : Tryz.prog.cellsOf 3 = 1 := by kernel_rfl
  have y0 := hg 0 (by omega)
  have y1 := hg 1 (by omega)
  rw [hc, List.getElem?_eq_getElem (by omega)] at y0 y1
  obtain ⟨x, ex, _, zx⟩ := DataW.trod_int Tryz.underlying3 y0
  obtain ⟨y, ey, _, zy⟩ := DataW.trod_int Tryz.underlying3 y1
  have ex := one_at ex
  have ey := one_at ey
  have hl : l.length = 2 := hsz.trans (by kernel_rfl)
  refine ⟨x, y, ?_, zx, zy⟩
  match l, hl with
  | [c0, c1], _ =>
    simp at ex ey
    subst ex ey
    rfl
end
end Go.Proofs.YtcjbbneiobnmkaaGreat
