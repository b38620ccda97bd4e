/- Arguments that are slices of numbers or of integers, opened. -/
import Derived.Test.YtdiiggmcdpiahaaTr
import Derived.Test.YtdiiggmcdpiahaaPost
import Derived.SliceStrings
import Derived.Deep.SlicePairs
namespace Go.Proofs.Ytdiiggmcdpiahaa
open Go.RowKit Go.WideShapes Go.ChangeShapes Go.ChangeAt Num
section
variable {H : Type} {enc : TypeId × Value → H} {P : Program}
theorem open_nats {t e : TypeId} {W : World} {base : Nat} (ht : P.underlying t = some (.slice e)) (he : P.underlying e = some .string) (hc : P.cellsOf e = 1) {v : Value} {d : DataW H} {p : List MemPlace}
    (hv : Value.okWide P W .any base t v) (h : DataW.Trod enc P W 0 (fun _ => true) true t v d p) :
    ∃ (ao : Option Addr) (cm : Nat) (L : List (List UInt8)), v = .slice ao L.length cm ∧ L.length ≤ maxLen ∧ (∀ s ∈ L, s.length ≤ maxLen) ∧ MoreS W ao L := by
  obtain ⟨a0, len, cap, rfl⟩ := okWide_slice ht hv
  obtain ⟨fuel, hf⟩ := h
  rcases open_strings ht he hc hf with ⟨hcs, hx⟩ | ⟨a, len', cap', ss, hcs, _, hl, hm, hz, hx, hcell, hws⟩
  · simp [Value.cells] at hcs
    obtain ⟨rfl, rfl, rfl⟩ := hcs
    exact ⟨none, 0, [], rfl, by simp, by simp, fun k hk => by simp at hk⟩
  · simp [Value.cells] at hcs
    obtain ⟨rfl, rfl, rfl⟩ := hcs
    simp at hz
    have hlen : ((ss.take len).map fun s => s.data.toList).length = len := by simp [hz]; omega
    refine ⟨some a, cap, (ss.take len).map fun s => s.data.toList, by rw [hlen], by rw [hlen]; omega, ?_, ?_⟩
    · intro s hs
      rw [List.mem_map] at hs
      obtain ⟨z, hz', rfl⟩ := hs
      have := hws z (List.mem_of_mem_take hz')
      rw [← Go.Lib.size_eq]; exact this
    · intro k hk
      rw [hlen] at hk
      have hk0 : 0 < ss.length := by omega
      obtain ⟨b, off, spot⟩ := a
      have hspot : spot = none := by simpa [Addr.add] using World.cell?_spot (hcell 0 hk0)
      subst hspot
      refine ⟨b, off, rfl, ?_⟩
      rw [← Go.WideShapes.add_plain, hcell k (by omega)]
      congr 2
      simp [List.getD_eq_getElem?_getD, show k < ss.length by omega, str]
/-- what cells hold -/
def bitOf : Value → Bool | .bool b => b | _ => false
def strOfV : Value → ByteArray | .string s => s | _ => ⟨#[]⟩
theorem open_integers {t e : TypeId} {f0 f1 : Field} {W : World} {base : Nat} (ht : P.underlying t = some (.slice e)) (he : P.underlying e = some (.struct #[f0, f1]))
    (ce : P.cellsOf e = 2) (o0 : f0.offset = 0) (o1 : f1.offset = 1) (c0 : P.cellsOf f0.type = 1) (c1 : P.cellsOf f1.type = 1) (u0 : P.underlying f0.type = some .bool) (u1 : P.underlying f1.type = some .string) {v : Value} {d : DataW H} {p : List MemPlace}
    (hv : Value.okWide P W .any base t v) (h : DataW.Trod enc P W 0 (fun _ => true) true t v d p) :
    ∃ (ao : Option Addr) (cm : Nat) (L : List (Bool × List UInt8)), v = .slice ao L.length cm ∧ L.length ≤ maxLen ∧ (∀ s ∈ L, s.2.length ≤ maxLen) ∧ MoreI W ao L := by
  obtain ⟨a0, len, cap, rfl⟩ := okWide_slice ht hv
  obtain ⟨fuel, hf⟩ := h
  rcases Go.Deep.open_slice_pairs ht he ce o0 o1 c0 c1 hf with ⟨hcs, hx⟩ | ⟨a, len', cap', m, n, V0, V1, D0, D1, P0, P1, hcs, _, hl, hm, hmm, hx, hi⟩
  · simp [Value.cells] at hcs
    obtain ⟨rfl, rfl, rfl⟩ := hcs
    exact ⟨none, 0, [], rfl, by simp, by simp, fun k hk => by simp at hk⟩
  · simp [Value.cells] at hcs
    obtain ⟨rfl, rfl, rfl⟩ := hcs
    simp at hmm
    subst hmm
    have each : ∀ i, i < m → ∃ b s, V0 i = .bool b ∧ V1 i = .string s ∧ s.size ≤ maxLen := by
      intro i hik
      obtain ⟨_, _, h3, h4⟩ := hi i hik
      obtain ⟨b, hb, _⟩ := DataW.trod_bool u0 h3
      obtain ⟨s, hs, _, hz⟩ := DataW.trod_string u1 h4
      simp at hb hs
      exact ⟨b, s, hb, hs, hz⟩
    have hlen : ((List.range len).map fun i => (bitOf (V0 i), (strOfV (V1 i)).data.toList)).length = len := by simp
    refine ⟨some a, m, (List.range len).map fun i => (bitOf (V0 i), (strOfV (V1 i)).data.toList), by rw [hlen], by rw [hlen]; omega, ?_, ?_⟩
    · intro s hs
      rw [List.mem_map] at hs
      obtain ⟨i, hi', rfl⟩ := hs
      obtain ⟨b, s, _, e2, hz⟩ := each i (by have := List.mem_range.1 hi'; omega)
      simp only [e2, strOfV]
      rw [← Go.Lib.size_eq]; exact hz
    · intro k hk
      rw [hlen] at hk
      obtain ⟨h1, h2, _, _⟩ := hi k (by omega)
      obtain ⟨b', off, spot⟩ := a
      have hspot : spot = none := by
        have := World.cell?_spot (hi 0 (by omega)).1
        simpa [Addr.add] using this
      subst hspot
      obtain ⟨b, s, e1, e2, _⟩ := each k (by omega)
      rw [Go.WideShapes.add_plain] at h1 h2
      refine ⟨b', off, rfl, ?_, ?_⟩
      · rw [h1, e1]; simp [e1, bitOf]
      · rw [Nat.add_assoc, h2, e2]; simp [e2, strOfV, str]
end
end Go.Proofs.Ytdiiggmcdpiahaa
