/- strings.Builder, alone or at the head of a struct: what it holds, and its methods. -/
import Derived.Test.YtdhhbjmkdmbffaaGreatDoorBytes
import Derived.Lib.Builder
import Derived.Lib.AppendStr
import Derived.Lib.UnsafeStr
import Derived.Laws.Externs
import Derived.BigQuiet
import Derived.RegionTactic
import Derived.BigRegion
import Derived.StillTailTactics
import Derived.Handy
import Derived.WalkSmall
namespace Go.Proofs.YtdhhbjmkdmbffaaGreatDoor
open Go.RowKit Num
open Go.Lib (byteCells byteCells_length byteCells_append)
set_option maxRecDepth 20000

/-- types whose first part is a Builder, and which have no other -/
structure BT (T : TypeId) : Prop where
  lies : liesAt Tryz.prog Tryz.prog.depth T (2 / Tryz.prog.cellsOf T) 0 151 1 = true
  ne : T ≠ 5
theorem bt_builder : BT 151 := ⟨by kernel_rfl, by decide⟩
theorem size_builder : (Tryz.prog.info? 151).map (·.size) = some 2 := by kernel_rfl
theorem cells_byte : Tryz.prog.cellsOf 5 = 1 := by kernel_rfl

/-- block b is a builder that holds the bytes l; p: its first cell -/
def BldAt (T : TypeId) (w : World) (b : Nat) (l : List UInt8) (p : Value) : Prop :=
  ∃ v, w.heap[b]? = some (.cells #[p, v] T (0, 0)) ∧ w.ownsRow (b + 1) 5 1 v l.length (byteCells l)
def Bld (T : TypeId) (w : World) (b : Nat) (l : List UInt8) : Prop := BldAt T w b l (.pointer none) ∨ BldAt T w b l (.pointer (some ⟨b, 0, none⟩))
section
variable {T : TypeId} {w w' : World} {b : Nat} {l : List UInt8} {p : Value}
theorem BldAt.lt (h : BldAt T w b l p) : b < w.heap.size := by
  obtain ⟨v, h, _⟩ := h
  exact (Array.getElem?_eq_some_iff.1 h).1
theorem Bld.lt (h : Bld T w b l) : b < w.heap.size := by rcases h with h | h <;> exact h.lt
theorem BldAt.drew (h : BldAt T w b l p) : BldAt T w.drew b l p := h
theorem Bld.drew (h : Bld T w b l) : Bld T w.drew b l := h
theorem ownsRow_above {B B0 : Nat} {e : TypeId} {size n : Nat} {v : Value} {xs : List Value} (h : w.ownsRow B0 e size v n xs) (hb : Below B w w') (hB : w.heap.size ≤ B) : w'.ownsRow B0 e size v n xs := by
  refine ⟨h.1, ?_⟩
  rcases h.2 with h | ⟨g, cap, cur, hv, h1, h2, h3⟩
  · exact .inl h
  · exact .inr ⟨g, cap, cur, hv, h1, by rw [hb.block g (Nat.lt_of_lt_of_le (Array.getElem?_eq_some_iff.1 h2).1 hB)]; exact h2, h3⟩
theorem BldAt.below {B : Nat} (h : BldAt T w b l p) (hb : Below B w w') (hB : w.heap.size ≤ B) : BldAt T w' b l p := by
  have hlt := h.lt
  obtain ⟨v, h1, h2⟩ := h
  exact ⟨v, by rw [hb.block b (by omega)]; exact h1, ownsRow_above h2 hb hB⟩
theorem Bld.below {B : Nat} (h : Bld T w b l) (hb : Below B w w') (hB : w.heap.size ≤ B) : Bld T w' b l := by
  rcases h with h | h
  · exact .inl (h.below hb hB)
  · exact .inr (h.below hb hB)
theorem Bld.new (T : TypeId) (w : World) : Bld T (w.alloc (.cells #[.pointer none, .slice none 0 0] T)) w.heap.size [] :=
  .inl ⟨_, heap_alloc_new w _, World.ownsRow_nil _ _ _ _⟩
end

/-- blocks of other types than bytes, apart from b, are left alone -/
def Oth (b : Nat) (w w' : World) : Prop := ∀ k cs t fr, k ≠ b → t ≠ 5 → w.heap[k]? = some (.cells cs t fr) → w'.heap[k]? = some (.cells cs t fr)
theorem Oth.refl (b : Nat) (w : World) : Oth b w w := fun _ _ _ _ _ _ h => h
theorem Oth.trans {b : Nat} {w w' w'' : World} (h : Oth b w w') (h' : Oth b w' w'') : Oth b w w'' := fun k cs t fr h1 h2 h3 => h' k cs t fr h1 h2 (h k cs t fr h1 h2 h3)
theorem Oth.set (b j : Nat) (w : World) (v : Value) : Oth b w (w.setCell ⟨b, j, none⟩ v) := fun k cs t fr h1 _ h3 => by
  rw [Below.heap_setCell _ _ _ _ h1]; exact h3
theorem Oth.alloc (b : Nat) (w : World) (o : Obj) : Oth b w (w.alloc o) := fun k cs t fr _ _ h3 => by
  rw [Below.heap_alloc _ _ _ (Array.getElem?_eq_some_iff.1 h3).1]; exact h3
theorem Oth.drew (b : Nat) (w : World) : Oth b w w.drew := fun _ _ _ _ _ _ h => h
theorem Oth.grown {b B size n : Nat} {w w' : World} {v : Value} {xs : List Value} (h : w.ownsRow B 5 size v n xs) (hg : w.grownBy w' v.ownBlock) : Oth b w w' := fun k cs t fr _ h2 h3 => by
  rw [hg.block k (Array.getElem?_eq_some_iff.1 h3).1]
  · exact h3
  · intro e
    rcases h.2 with ⟨rfl, _⟩ | ⟨g, cap, cur, rfl, _, hg', _⟩
    · cases e
    · simp only [Value.ownBlock, Option.some.injEq] at e
      subst e
      rw [hg'] at h3
      injection h3 with h3
      injection h3 with _ h3
      exact h2 h3.symm

set_option maxHeartbeats 1000000 in
theorem copyCheck_any (T : TypeId) (hT : BT T) (b : Nat) (l : List UInt8) (w : World) (h : Bld T w b l) :
    Calls Tryz.prog 125 #[.pointer (some ⟨b, 0, none⟩)] w fun e w' => e = .returned (.tuple #[]) ∧ BldAt T w' b l (.pointer (some ⟨b, 0, none⟩)) ∧ Below b w w' ∧ Oth b w w' := by
  obtain ⟨j, hj, hjs⟩ := Option.map_eq_some_iff.1 size_builder
  have hlt := h.lt
  rcases h with h | h
  · have hh := h
    obtain ⟨v, h1, h2⟩ := hh
    have h0 : w.cell? ⟨b, 0, none⟩ = some (.pointer none) := by rw [Lib.cell_of_heap h1]; rfl
    have hfz : w.frozen? ⟨b, 0, none⟩ = false := Lib.frozen_of_heap h1 0
    have hsh : w.shape? b = some (T, 2) := by simp [World.shape?, h1]
    go_enter Tryz.func125, Tryz.ntmps125
    go_wp2
    rw [Lib.run_to_unsafe w ⟨b, 0, none⟩ Tryz.underlying149 Tryz.underlying216 hj (by rw [hjs]; decide) hsh (Nat.zero_lt_succ 1)]
    simp only [Result.andThen]
    rw [Oper.upon_value]
    go_wp2
    rw [run_callFunc_extern Tryz.func159 (by kernel_rfl) (by kernel_rfl) (by kernel_rfl) (e := Extern.AbiNoEscape.same) (by kernel_rfl)]
    rw [Lib.run_noEscape]
    simp only [Result.andThen]
    rw [Oper.upon_value]
    go_wp2
    rw [Lib.run_from_unsafe w ⟨b, 0, none⟩ Tryz.underlying216 Tryz.underlying149 hj hsh hT.lies]
    simp only [Result.andThen]
    rw [Oper.upon_value]
    go_wp2
    go_end0
    refine ⟨rfl, ⟨v, ?_, ?_⟩, (Below.refl b w).setCell (p := ⟨b, 0, none⟩) (Nat.le_refl _) _, Oth.set _ _ _ _⟩
    · simp [World.setCell, Array.getElem?_modify, h1]
    · refine h2.kept (row := some b) ⟨rfl, rfl, rfl, by simp [World.setCell], fun k _ hk => Below.heap_setCell _ _ _ _ (fun e => hk (by simp [e]))⟩ ?_
      rcases h2.2 with ⟨rfl, _⟩ | ⟨g, cap, cur, rfl, hg, _⟩
      · exact .inl rfl
      · exact .inr (fun e => by simp [Value.ownBlock] at e; omega)
  · have hh := h
    obtain ⟨v, h1, h2⟩ := hh
    have h0 : w.cell? ⟨b, 0, none⟩ = some (.pointer (some ⟨b, 0, none⟩)) := by rw [Lib.cell_of_heap h1]; rfl
    go_enter Tryz.func125, Tryz.ntmps125
    go_wp2
    rw [Lib.run_neq_ptr_same w _ Tryz.underlying149 hj]
    go_wp2
    go_end0
    exact ⟨rfl, h, Below.refl _ _, Oth.refl _ _⟩
theorem ret_nil : Ending.returned Value.nilIface = .returned .nilIface := rfl
theorem own_ne {w : World} {b : Nat} {e : TypeId} {size n : Nat} {v : Value} {xs : List Value} (h : w.ownsRow (b + 1) e size v n xs) : v.ownBlock ≠ some b := by
  rcases h.2 with ⟨rfl, _⟩ | ⟨g, cap, cur, rfl, hg, _⟩
  · simp [Value.ownBlock]
  · intro e; simp [Value.ownBlock] at e; omega
/-- a new buffer laid into the second cell -/
theorem bld_put {T : TypeId} {w : World} {b : Nat} {l : List UInt8} {p v v' : Value} (h : w.heap[b]? = some (.cells #[p, v] T (0, 0))) (ho : w.ownsRow (b + 1) 5 1 v' l.length (byteCells l)) :
    BldAt T (w.setCell ⟨b, 1, none⟩ v') b l p := by
  refine ⟨v', ?_, ?_⟩
  · simp [World.setCell, Array.getElem?_modify, h]
  · exact ho.kept (row := some b) ⟨rfl, rfl, rfl, by simp [World.setCell], fun k _ hk => Below.heap_setCell _ _ _ _ (fun e => hk (by simp [e]))⟩ (.inr (own_ne ho))
set_option maxHeartbeats 1000000 in
theorem WriteString_any (T : TypeId) (hT : BT T) (b : Nat) (l r : List UInt8) (w : World) (h : Bld T w b l) (hlen : l.length ≤ 10000000) (hr : r.length ≤ 10000000) :
    Calls Tryz.prog 81 #[.pointer (some ⟨b, 0, none⟩), .string (str r)] w fun e w' => e = .returned (.tuple #[.int .i64 r.length, .nilIface]) ∧ Bld T w' b (l ++ r) ∧ Below b w w' ∧ Oth b w w' := by
  obtain ⟨i0, hi, hz0, hz1, hz2⟩ := info_parts info_u8
  have hsz := size_str r
  go_enter Tryz.func81, Tryz.ntmps81
  go_wp2_with fail
  refine (copyCheck_any T hT b l _ h).mono ?_
  rintro e w1 ⟨rfl, h1, hb1, ho1⟩
  have hlt := h1.lt
  obtain ⟨v, hbk, hown⟩ := h1
  have c1 : w1.cell? ⟨b, 1, none⟩ = some v := by rw [Lib.cell_of_heap hbk]; rfl
  go_wp2_with (at_builtin; refine Lib.wpList_append_own_string _ rfl (.tmp 12) (.tmp 13) 88 9 rfl (b + 1) 5 i0 Tryz.underlying88 Tryz.underlying9 hi hz0 hz1 hz2 v l.length (byteCells l) rfl hown (str r) rfl (by rw [hsz]; unfold maxLen; omega) (by rw [hsz]; omega) ?c6 ?_)
  case c6 => omega
  intro v' w2 hown' hgrow _
  have hne : v.ownBlock ≠ some b := own_ne hown
  have hb2 : w2.heap[b]? = some (.cells #[.pointer (some ⟨b, 0, none⟩), v] T (0, 0)) := by
    rw [hgrow.block b (by omega) (fun e => hne e.symm)]
    exact hbk
  have d1 : w2.cell? ⟨b, 1, none⟩ = some v := by rw [Lib.cell_of_heap hb2]; rfl
  have f1 : w2.frozen? ⟨b, 1, none⟩ = false := Lib.frozen_of_heap hb2 1
  obtain ⟨ao, n', cap, rfl⟩ : ∃ ao n' cap, v' = .slice ao n' cap := by
    rcases hown'.2 with ⟨hv, _⟩ | ⟨g, cap, cur, hv, _⟩
    · exact ⟨_, _, _, hv⟩
    · exact ⟨_, _, _, hv⟩
  have hb3 := (hb1.grown hgrow (by omega) (fun k hk => by have := (hown.lt k hk).1; omega)).setCell (p := ⟨b, 1, none⟩) (Nat.le_refl _) (.slice ao n' cap)
  have hown2 : w2.ownsRow (b + 1) 5 1 (.slice ao n' cap) (l ++ r).length (byteCells (l ++ r)) := by
    rw [byteCells_append, List.length_append]; exact hown'
  go_wp2_with fail
  go_ret2
  exact ⟨rfl, .inr (bld_put hb2 hown2), hb3, ho1.trans ((Oth.grown hown hgrow).trans (Oth.set _ _ _ _))⟩
theorem Len_any (T : TypeId) (b : Nat) (l : List UInt8) (w : World) (h : Bld T w b l) :
    Calls Tryz.prog 85 #[.pointer (some ⟨b, 0, none⟩)] w fun e w' => e = .returned (.int .i64 l.length) ∧ w = w' := by
  obtain ⟨p, v, hbk, hown⟩ : ∃ p, BldAt T w b l p := by rcases h with h | h <;> exact ⟨_, h⟩
  obtain ⟨ao, cap, rfl⟩ : ∃ ao cap, v = .slice ao l.length cap := by
    rcases hown.2 with ⟨hv, h0⟩ | ⟨g, cap, cur, hv, _⟩
    · exact ⟨none, 0, by rw [hv, h0]⟩
    · exact ⟨_, _, hv⟩
  have c1 : w.cell? ⟨b, 1, none⟩ = some (.slice ao l.length cap) := by rw [Lib.cell_of_heap hbk]; rfl
  go_enter Tryz.func85, Tryz.ntmps85
  go_wp2
  go_ret
  exact ⟨rfl, rfl⟩
set_option maxHeartbeats 1000000 in
theorem String_any (T : TypeId) (b : Nat) (l : List UInt8) (w : World) (h : Bld T w b l) (h0 : l ≠ []) :
    Calls Tryz.prog 86 #[.pointer (some ⟨b, 0, none⟩)] w fun e w' => e = .returned (.string (str l)) ∧ Below b w w' := by
  obtain ⟨p, v, hbk, hown⟩ : ∃ p, BldAt T w b l p := by rcases h with h | h <;> exact ⟨_, h⟩
  have hl0 : l.length ≠ 0 := by simpa using h0
  obtain ⟨g, cap, cur, rfl, hbg, hg, hnc, hcm, hcs, htake⟩ : ∃ g cap cur, v = .slice (some ⟨g, 0, none⟩) l.length cap ∧ b + 1 ≤ g ∧ w.heap[g]? = some (.cells cur 5 (0, 0)) ∧ l.length ≤ cap ∧ cap ≤ maxLen ∧ cur.size = cap * 1 ∧ cur.toList.take (l.length * 1) = byteCells l := by
    rcases hown.2 with ⟨_, hz⟩ | ⟨g, cap, cur, hv, r⟩
    · exact absurd hz hl0
    · exact ⟨g, cap, cur, hv, r⟩
  have c1 : w.drew.cell? ⟨b, 1, none⟩ = some (.slice (some ⟨g, 0, none⟩) l.length cap) := by
    have : w.drew.heap[b]? = some (.cells #[p, .slice (some ⟨g, 0, none⟩) l.length cap] T (0, 0)) := hbk
    rw [Lib.cell_of_heap this]; rfl
  have hSD : (Builtin.unsafeSliceData_ #[88] 186 #[.slice (some ⟨g, 0, none⟩) l.length cap]).run Tryz.prog w.drew = .ok (.pointer (some ⟨g, 0, none⟩)) w.drew :=
    Lib.run_unsafeSliceData_row _ _ _ _ _ _ (by omega)
  have hUS : (Builtin.unsafeString_ #[186, 3] 9 #[.pointer (some ⟨g, 0, none⟩), .int .i64 l.length]).run Tryz.prog w.drew = .ok (.string (str l)) (w.drew.freeze ⟨g, 0, none⟩ l.length) := by
    refine Lib.run_unsafeString_row w.drew 186 3 9 5 Tryz.underlying186 cells_byte g cur.size (by have hg' : w.drew.heap[g]? = some (.cells cur 5 (0, 0)) := hg; simp [World.shape?, hg']) l h0 (by omega) (by unfold maxLen at hcm; omega) ?_
    intro j x hx
    have := hown.cells (g := g) rfl j (.int .u8 x.toNat) (by simp [byteCells, hx])
    exact this
  go_enter Tryz.func86, Tryz.ntmps86
  go_wp2
  go_region
  all_goals (go_wp2; go_ret; exact ⟨rfl, Lib.below_freeze (Below.drew (Below.refl b w)) (p := ⟨g, 0, none⟩) (by show b ≤ g; omega) _⟩)
theorem strCells_str (r : List UInt8) : Lib.strCells (str r) = byteCells r := rfl
end Go.Proofs.YtdhhbjmkdmbffaaGreatDoor
