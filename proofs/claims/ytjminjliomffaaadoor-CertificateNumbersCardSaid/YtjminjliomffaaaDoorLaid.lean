/- The table of math/bits, as the row lays it. -/
import Derived.Test.YtjminjliomffaaaDoorRows
import Derived.Test.YtjminjliomffaaaDoorPost
import Derived.Test.YtjminjliomffaaaDoorPrmB
import Derived.ProofKit
import Derived.LaidMore
import Derived.OpenShut
import Derived.Stop.Joined
namespace Go.Proofs.YtjminjliomffaaaDoor
open Go.ChangeShapes Go.WideShapes Go.ChangeAt Go.RowKit
set_option linter.unusedVariables false
def laidT {H : Type} : List (String × DataW H) := [("math/bits.deBruijn64tab", Rows.laid_math_bits_deBruijn64tab)]
theorem gTab : Tryd.prog.globalNamed "math/bits.deBruijn64tab" = some 0 := by kernel_rfl
theorem tTab : (Tryd.prog.globals[0]?).map (·.type) = some 92 := by kernel_rfl
theorem cTab : Tryd.prog.cellsOf 5 = 1 := by kernel_rfl
/-- the table's own list of the row's datum -/
theorem datTab : (Rows.laid_math_bits_deBruijn64tab : DataW Unit) = .agg (Lib.deBruijn64tab.map fun k : Nat => .lit (.int .u8 (k : Int))) := by rfl
theorem tab_of_laid {W : World} (h : laidMetH Tryd.prog laidT W) : Tab W := by
  rw [MakeChecks.laidMetH_plain _ _ _ (by kernel_rfl)] at h
  obtain ⟨ps, ⟨g0, t0, cs0, f0, p0, q0, hg0, ht0, hv0, hd0, _⟩, _, _⟩ := h
  obtain rfl := Option.some.inj (gTab.symm.trans hg0)
  obtain rfl := Option.some.inj (tTab.symm.trans ht0)
  rw [datTab] at hd0
  obtain ⟨xs, m1, rfl, hx1, hlen, hn3, hel⟩ := DataW.trod_array Tryd.underlying92 hd0
  simp only [Prod.mk.injEq, DataW.agg.injEq] at hx1
  intro j hj
  have h1 := hel j hj
  rw [cTab, Nat.mul_one] at h1
  have hjx : j < xs.length := by omega
  rw [List.getElem?_eq_getElem hjx] at h1
  obtain ⟨k, e1, e2, _⟩ := DataW.trod_int Tryd.underlying5 h1
  have h2 : (Lib.deBruijn64tab.map fun k : Nat => (DataW.lit (.int .u8 (k : Int)) : DataW Unit))[j]? = some (.lit (.int .u8 k)) := by
    rw [hx1.1, List.getElem?_map, List.getElem?_eq_getElem hjx, e2]; rfl
  rw [List.getElem?_map] at h2
  have h3 := World.var?_cell hg0 hv0 j
  rw [h3]
  have h4 : cs0.toList[j]? = some (.int .u8 k) := by
    have := congrArg List.head? e1
    rw [List.head?_take, if_neg (by omega), List.head?_drop] at this
    exact this
  rw [← Array.getElem?_toList, h4]
  cases hk : Lib.deBruijn64tab[j]? with
  | none => rw [hk] at h2; cases h2
  | some kk =>
    rw [hk] at h2
    rw [List.getD_eq_getElem?_getD, hk]
    simp only [Option.map_some, Option.some.injEq, DataW.lit.injEq, Lit.int.injEq, true_and] at h2
    rw [← h2]
    rfl
set_option maxRecDepth 100000 in
/-- the door's own heap meets the condition -/
theorem door_met (os : Os) (args : Array Value) : laidMetH Tryd.prog laidT ((World.doorLaid Tryd.prog 400 os).forCall (fun _ _ => 0) ⟨#[], args, []⟩).memory :=
  laidMetH_of_parts3 (fuel := 8) (laidMet_of_run' 8 (by kernel_rfl) (by kernel_rfl)) (by kernel_rfl) (by kernel_rfl)
end Go.Proofs.YtjminjliomffaaaDoor
