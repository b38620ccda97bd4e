/- modular.Power. -/
import Derived.Test.YtdlbnioidfhhcaaGreatInv
namespace Go.Proofs.YtdlbnioidfhhcaaGreat
open Go.RowKit Num
set_option maxRecDepth 20000
set_option linter.unusedVariables false
/-- what Power answers -/
def pwE (s : ByteArray) (ng : Bool) (t v : ByteArray) : Int := if validB t = true ∧ (ng && t.toList.isEmpty) = false then (if ng = true then ivE s v else chk [s] [v]) else 3
def pwS (s : ByteArray) (ng : Bool) (t v : ByteArray) : ByteArray := mo (pwE s ng t v) ((if ng = true then invm (nv s) (nv v) else nv s) ^ nv t % nv v)
theorem ivE_bad {s v : ByteArray} (h : chk [s] [v] ≠ 0) : ivE s v = chk [s] [v] := by unfold ivE; rw [if_neg h]
theorem chk_one {s t v : ByteArray} {a b m : Nat} (hs : IsN s a) (ht : IsN t b) (hv : IsN v m) (h0 : 0 < m) : chk [s, t] [v] = 0 := chk21 hs ht hv h0
section
variable {W : World} {p : Nat} {ng : Bool} {t : ByteArray}
/-- a variable of type api.Int -/
def IB (W : World) (b : Nat) (ng : Bool) (t : ByteArray) : Prop := W.heap[b]? = some (.cells #[.bool ng, .string t] 50 (0, 0))
theorem IB.lt (h : IB W p ng t) : p < W.heap.size := (Array.getElem?_eq_some_iff.1 h).1
theorem IB.c0 (h : IB W p ng t) : W.cell? ⟨p, 0, none⟩ = some (.bool ng) := by rw [Lib.cell_of_heap h]; rfl
theorem IB.c1 (h : IB W p ng t) : W.cell? ⟨p, 1, none⟩ = some (.string t) := by rw [Lib.cell_of_heap h]; rfl
theorem IB.new (W : World) (ng : Bool) (t : ByteArray) : IB (W.alloc (.cells #[.bool ng, .string t] 50)) W.heap.size ng t := heap_alloc_new W _
theorem IB.below {W' : World} {K : Nat} (h : IB W p ng t) (hb : Below K W W') (hB : p < K) : IB W' p ng t := (hb.block p hB).trans h
end
end Go.Proofs.YtdlbnioidfhhcaaGreat
