/- slices.Sort on integers: the library's contract at this program. -/
import Derived.Test.YtjminjliomffaaaGreatDoorCeG
import Derived.Shelf.Sort.Plain
import Derived.Sort.OwnSortedInts
import Derived.Shelf.Lay
namespace Go.Proofs
open Go.Shelf Go.Sort Go.RowKit
shelf_lay Lays.n189 Nm 189 at Tryz as Tryz.lays189
end Go.Proofs
namespace Go.Proofs.YtjminjliomffaaaGreatDoor
open Go.RowKit Go.Sort Go.Shelf
/-- the library's sort sorts -/
theorem sortC : SortC := fun B blk cap zs w ho hl => by
  rcases ho.2 with ⟨e, _⟩ | ⟨g, cap', cur, e, hb, hg, h1, h2, h3, h4⟩
  · cases e
  · cases e
    refine (Any.slices_Sort_int Tryz.lays189 blk 0 cap zs w (holds_of_blockI hg (by simpa using h4)) (Array.getElem?_eq_some_iff.1 hg).1 (by omega)).mono ?_
    rintro e w' ⟨rfl, n, os, rfl⟩
    exact ⟨rfl, ownsRow_sortedI (by simp) hb hg h1 h2 h3, grownBy_sortedI _⟩
end Go.Proofs.YtjminjliomffaaaGreatDoor
