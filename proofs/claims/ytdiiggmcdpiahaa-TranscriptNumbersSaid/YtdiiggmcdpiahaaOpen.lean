/- Arguments that are slices of numbers or of integers, opened. -/
import Derived.Test.YtdiiggmcdpiahaaTr
import Derived.Test.YtdiiggmcdpiahaaPost
import Derived.SliceStrings
namespace Go.Proofs.Ytdiiggmcdpiahaa
open Go.RowKit Go.WideShapes Go.ChangeShapes Go.ChangeAt Num
section
variable {H : Type} {enc : TypeId × Value → H} {P : Program}
theorem open_nats {t e : TypeId} {W : World} {base : Nat} (ht : P.underlying t = some (.slice e)) (he : P.underlying e = some .string) (hc : P.cellsOf e = 1) {v : Value} {d : DataW H} {p : List MemPlace}
    (hv : Value.okWide P W .any base t v) (h : DataW.Trod enc P W 0 (fun _ => true) true t v d p) :
    ∃ (ao : Option Addr) (cm : Nat) (L : List (List UInt8)), v = .slice ao L.length cm ∧ L.length ≤ maxLen ∧ (∀ s ∈ L, s.length ≤ maxLen) ∧ MoreS W ao L := by
  obtain ⟨a0, len, cap, rfl⟩ := okWide_slice ht hv
  obtain ⟨fuel, hf⟩ := h
  rcases open_strings ht he hc hf with ⟨hcs, hx⟩ | ⟨a, len', cap', ss, hcs, _, hl, hm, hz, hx, hcell, hws⟩
  · simp [Value.cells] at hcs
    obtain ⟨rfl, rfl, rfl⟩ := hcs
    exact ⟨none, 0, [], rfl, by simp, by simp, fun k hk => by simp at hk⟩
  · simp [Value.cells] at hcs
    obtain ⟨rfl, rfl, rfl⟩ := hcs
    simp at hz
    have hlen : ((ss.take len).map fun s => s.data.toList).length = len := by simp [hz]; omega
    refine ⟨some a, cap, (ss.take len).map fun s => s.data.toList, by rw [hlen], by rw [hlen]; omega, ?_, ?_⟩
    · intro s hs
      rw [List.mem_map] at hs
      obtain ⟨z, hz', rfl⟩ := hs
      have := hws z (List.mem_of_mem_take hz')
      rw [← Go.Lib.size_eq]; exact this
    · intro k hk
      rw [hlen] at hk
      have hk0 : 0 < ss.length := by omega
      obtain ⟨b, off, spot⟩ := a
      have hspot : spot = none := by simpa [Addr.add] using World.cell?_spot (hcell 0 hk0)
      subst hspot
      refine ⟨b, off, rfl, ?_⟩
      rw [← Go.WideShapes.add_plain, hcell k (by omega)]
      congr 2
      simp [List.getD_eq_getElem?_getD, show k < ss.length by omega, str]
end
end Go.Proofs.Ytdiiggmcdpiahaa
