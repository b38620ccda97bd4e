/- A range over a function that keeps a state of its own in one captured cell: a law for loops that are never left. -/
import Derived.RangeFuncNested
import Derived.RangeFuncBound
import Derived.RangeFuncCalls
import Derived.RangeFuncLeaves
import Derived.Shelf.Abstract
import Derived.Shelf.RegionOpen
import Derived.WalkKit
import Derived.OwnWalkIn
import Derived.TacticsInMore
import Derived.LoopNIn
import Derived.LoopIn
import Derived.Test.YtjminjliomffaaaDoorNum
import Derived.Test.YtjminjliomffaaaDoorProg
namespace Go.Proofs.YtjminjliomffaaaDoor
open Go.RowKit Go.Shelf Num
set_option linter.unusedVariables false

/-- what the iterator may do with its own cell is no matter of the caller's -/
def FreeOf {β : Type} (B : Nat) (J : β → World → Prop) : Prop := ∀ s W v, J s W → J s (W.setCell ⟨B, 0, none⟩ v)
/-- a cell goes on holding what it holds -/
def Holds0 (B : Nat) (W W' : World) : Prop := W'.heap[B]? = W.heap[B]?
/-- the iterator's contract: it yields all of xs, one after the other -/
def SeqC {α : Type} (n : Nat) (P : Program) (g : Nat) (lb : Array Value) (enc : α → Value) (B : Nat) (xs : List α) (w : World) : Prop :=
  ∀ (l : Nat) (J : List α → World → Prop) (W : World), Holds0 B w W → Below B w W → w.heap.size ≤ W.heap.size → FreeOf B J →
    (∀ pre x W1, pre ++ [x] <+: xs → J pre W1 → YieldAt Fence.wide (n - 1) P l #[enc x] W1 fun e W' => e = .returned (.bool true) ∧ J (pre ++ [x]) W' ∧ Holds0 B W1 W') →
    J [] W → CallsIn Fence.wide n P g (#[.func (.yield l) #[] #[]] ++ lb) W fun e W' => (∃ v, e = .returned v) ∧ J xs W'
theorem rng_c {α : Type} {n : Nat} {P : Program} {g : Operand} {p : Tmp} {assign body : Code} {Q : Exit → Act → World → Prop} {a : Act} {w : World} (h1 : 1 ≤ n) {gf : Nat} {lb : Array Value}
    (hg : a.eval g = .func (.func gf) #[] lb) (eg : ∀ args w, (callFunc gf args).run P w = .ok (.enter gf args) w) {enc : α → Value} {B : Nat} {xs : List α} (hB : B < w.heap.size) (hcell : ∃ v t, w.heap[B]? = some (.cells #[v] t (0, 0)))
    (hseq : SeqC (n - 1) P gf lb enc B xs w) (I : List α → World → Prop) (hI : OwnFrom w.heap.size I) (hIs : FreeOf B I) (h0 : I [] w) (a₁ : α → Act)
    (hassign : ∀ (l : Nat) (x : α) (W : World) (K : Act → World → Prop), K (a₁ x) W → assign.wpIn (Fence.wide.inRound l) (n - 1 - 1) P (Exit.then K (fun _ _ _ => False)) { tmps := (#[p].zip #[enc x]).foldl (fun t (p, v) => t.setIfInBounds p v) a.tmps, defers := [] } W)
    (hbody : ∀ (l : Nat) (pre : List α) (x : α) (W : World), pre ++ [x] <+: xs → I pre W → body.wpIn (Fence.wide.inRound l) (n - 1 - 1) P (ownPostK (Holds0 B) I (fun _ _ _ => False) (pre ++ [x]) W) (a₁ x) W)
    (hdone : ∀ (D : Nat) (W : World), w.heap.size ≤ D → I xs W → W.heap[D]? = some (.deferred (some [])) → Q .normal { a with defers := { target := .collected D, args := #[] } :: a.defers } W) :
    (Code.rangeFunc g #[p] assign body).wpIn Fence.wide n P Q a w := by
  refine wpIn_rangeFunc fun fn _ => ?_
  let R : LoopState → Option Code → Loop := fun st pe => { state := st, pending := pe, fn, tmps := a.tmps, params := #[p], assign, body, defers := w.heap.size }
  let L := w.heap.size + 1
  let W1 := (w.alloc (.deferred (some []))).alloc (.loop (R .ready none))
  have hw1 : W1.heap[L]? = some (.loop (R .ready none)) := by
    have := World.alloc_heap_new (w.alloc (.deferred (some []))) (.loop (R .ready none))
    rwa [World.size_alloc] at this
  have hd1 : W1.heap[w.heap.size]? = some (.deferred (some [])) := (Below.heap_alloc _ _ _ (by simp)).trans (World.alloc_heap_new w _)
  have hold : ∀ k, k < w.heap.size → W1.heap[k]? = w.heap[k]? := fun k hk => (Below.heap_alloc _ _ _ (by simp; omega)).trans (Below.heap_alloc _ _ _ hk)
  refine ⟨L, [{ target := .collected w.heap.size, args := #[] }], W1, { target := .fn (.func gf) lb, args := #[.func (.yield L) #[] #[]] }, W1, gf, #[.func (.yield L) #[] #[]] ++ lb, W1, run_enterLoop_outer _ _ _ _ _, ?_, fun _ _ => trivial, by simp [invoke, go_sem, eg], fun _ => h1, ?_⟩
  · simp only [resolve, hg]
    simp [go_sem, L]
  -- between two rounds: the caller's own, the record, the mark
  have hfree : FreeOf B (fun (pre : List α) W => I pre W ∧ W.heap[L]? = some (.loop (R .ready none)) ∧ W.heap[w.heap.size]? = some (.deferred (some []))) := fun s W v h =>
    ⟨hIs s W v h.1, by rw [Below.heap_setCell _ _ _ _ (by show L ≠ B; omega)]; exact h.2.1, by rw [Below.heap_setCell _ _ _ _ (by show w.heap.size ≠ B; omega)]; exact h.2.2⟩
  refine (hseq L (fun pre W => I pre W ∧ W.heap[L]? = some (.loop (R .ready none)) ∧ W.heap[w.heap.size]? = some (.deferred (some []))) W1 (hold B hB) ((((Below.refl B w).alloc (by omega) _).alloc (by simp; omega) _)) (by simp [W1]; omega) hfree ?_ ⟨hI.alloc _ (hI.alloc _ h0), hw1, hd1⟩).mono ?_
  · -- a round
    rintro pre x W hpx ⟨hi, hl, hk⟩
    have hlt : L < W.heap.size := (Array.getElem?_eq_some_iff.1 hl).1
    have hne : w.heap.size ≠ L := by show w.heap.size ≠ w.heap.size + 1; omega
    refine ⟨fn, _, assign, body, run_yield (P := P) (args := #[enc x]) hl rfl, roundIn_of_wpIn trivial (hassign _ x W _ ⟨_, run_beginRound hl rfl, ?_⟩)⟩
    have hl2 : (W.putObj L (.loop { R .ready none with state := .busy })).heap[L]? = some (.loop { R .ready none with state := .busy }) := World.putObj_heap_same hlt
    have hk2 : (W.putObj L (.loop { R .ready none with state := .busy })).heap[w.heap.size]? = some (.deferred (some [])) := (World.putObj_heap_other hne).trans hk
    have hh2 : Holds0 B W (W.putObj L (.loop { R .ready none with state := .busy })) := World.putObj_heap_other (by show B ≠ w.heap.size + 1; omega)
    refine wpIn_mono (hbody _ pre x _ hpx (hI.putObj _ hi (by show w.heap.size ≤ w.heap.size + 1; omega) hl rfl)) ?_
    rintro e a3 W3 hp
    cases e with
    | normal =>
      obtain ⟨hk3, hh3, hi3⟩ := hp
      have hl3 := hk3.same _ _ hl2 rfl
      have hr := run_endRound (P := P) none hl3
      have hl4 : L < W3.heap.size := (Array.getElem?_eq_some_iff.1 hl3).1
      refine ⟨_, _, hr, rfl, ⟨hI.putObj _ hi3 (by show w.heap.size ≤ w.heap.size + 1; omega) hl3 rfl, World.putObj_heap_same hl4, (World.putObj_heap_other hne).trans (hk3.same _ _ hk2 rfl)⟩, ?_⟩
      exact (World.putObj_heap_other (by show B ≠ w.heap.size + 1; omega)).trans (hh3.trans hh2)
    | ret => exact hp.2.elim
    | exit id => exact hp.2.elim
    | goto t => exact hp.2.elim
    | panic ch => exact hp.elim
    | outgrown => exact hp.elim
  · rintro e W2 ⟨⟨v, rfl⟩, hi, hl, hk⟩
    have hne : w.heap.size ≠ L := by show w.heap.size ≠ w.heap.size + 1; omega
    exact ⟨none, _, run_endLoop (P := P) hl (by simp [R]), hdone _ _ (Nat.le_refl _) (hI.putObj _ hi (by show w.heap.size ≤ w.heap.size + 1; omega) hl rfl) ((World.putObj_heap_other hne).trans hk)⟩
end Go.Proofs.YtjminjliomffaaaDoor
