/- Small facts on strings as bytes. -/
import Derived.Test.YtmbenndmkacjpaaNatC
namespace Go.Proofs.Ytmbenndmkacjpaa
open Go.RowKit Num
theorem toList_nonempty {s : ByteArray} (h0 : s.size ≠ 0) : (s.toList = [] → False) ∧ s.toList.isEmpty = false := by
  have e1 : s.toList = [] → False := fun e => h0 (by
    rw [ByteArray.toList_eq] at e
    show s.data.size = 0
    rw [← Array.length_toList, e]; rfl)
  refine ⟨e1, ?_⟩
  cases hh : s.toList with
  | nil => exact (e1 hh).elim
  | cons a l => rfl
theorem bytes_zero {s : ByteArray} (h0 : s.size = 0) : s = ⟨#[]⟩ := by
  cases s with | mk d => simp [ByteArray.size] at h0; simp [h0]
end Go.Proofs.Ytmbenndmkacjpaa
