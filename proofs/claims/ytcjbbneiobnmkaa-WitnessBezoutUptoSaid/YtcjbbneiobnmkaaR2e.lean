/- The reference of layer 2: Extended. -/
import Derived.Test.YtcjbbneiobnmkaaR2d
namespace Go.Proofs.Ytcjbbneiobnmkaa
open Go.RowKit Num
set_option maxRecDepth 20000
set_option linter.unusedVariables false
theorem BS.sety {w W : World} {p q : Nat} {x y : Int} (h : BS w W p q x y) (hpq : p ≠ q) (a : Int) : BS w ((W.setCell ⟨q, 0, none⟩ (.bool (zb a))).setCell ⟨q, 1, none⟩ (.string (zs a))) p q x a := by
  have ho := h.o
  have e : ∀ k, k ≠ q → ((W.setCell ⟨q, 0, none⟩ (.bool (zb a))).setCell ⟨q, 1, none⟩ (.string (zs a))).heap[k]? = W.heap[k]? := fun k hk => (Below.heap_setCell _ _ _ _ hk).trans (Below.heap_setCell _ _ _ _ hk)
  exact ⟨(e _ hpq).trans h.x, put2 h.y, (e _ (by omega)).trans h.r5, (e _ (by omega)).trans h.r6,
    (h.b.setCell (p := ⟨q, 0, none⟩) (by show _ ≤ q; omega) _).setCell (p := ⟨q, 1, none⟩) (by show _ ≤ q; omega) _, ho⟩
end Go.Proofs.Ytcjbbneiobnmkaa
