/- Rows of integers that a call owns: what they hold as a function of the index. -/
import Derived.Test.YtdlbnioidfhhcaaGreatProg
import Derived.Test.YtdlbnioidfhhcaaGreatNum
import Derived.WalkKit
import Derived.Lib.Hide
namespace Go.Proofs.YtdlbnioidfhhcaaGreat
open Go.RowKit Num

/-- the cells of a row of integers -/
def icells (k : IntKind) (n : Nat) (f : Nat → Int) : Array Value := (Array.range n).map fun i => .int k (f i)
theorem size_icells (k : IntKind) (n : Nat) (f : Nat → Int) : (icells k n f).size = n := by simp [icells]
theorem icells_get (k : IntKind) (n : Nat) (f : Nat → Int) (i : Nat) (h : i < n) : (icells k n f)[i]? = some (.int k (f i)) := by
  simp [icells, h]
theorem icells_congr {k : IntKind} {n : Nat} {f g : Nat → Int} (h : ∀ i, i < n → f i = g i) : icells k n f = icells k n g := by
  apply Array.ext
  · simp [icells]
  · intro i h1 h2
    simp [icells] at h1 ⊢
    exact h i h1
theorem icells_set (k : IntKind) (n : Nat) (f : Nat → Int) (i : Nat) (v : Int) : (icells k n f).setIfInBounds i (.int k v) = icells k n (upd f i v) := by
  apply Array.ext
  · simp [icells]
  · intro j h1 h2
    simp [icells] at h1 ⊢
    rw [Array.getElem_setIfInBounds (by simpa using h1)]
    by_cases e : i = j
    · subst e; simp [upd]
    · have e' : j ≠ i := fun h => e h.symm
      simp [upd, e, e']
theorem madeCells_int (k : IntKind) (n : Nat) : madeCells #[Value.int k 0] n = icells k n (fun _ => 0) := by
  apply Array.ext
  · simp [icells, madeCells]
  · intro j h1 h2
    simp [icells, madeCells, Nat.mod_one]

/-- block b is a row of n integers, given by f -/
def Arr (w : World) (b : Nat) (t : TypeId) (k : IntKind) (n : Nat) (f : Nat → Int) : Prop := w.heap[b]? = some (.cells (icells k n f) t (0, 0))

section
variable {w : World} {b : Nat} {t : TypeId} {k : IntKind} {n : Nat} {f : Nat → Int}
theorem Arr.cell (h : Arr w b t k n f) {i : Nat} (hi : i < n) : w.cell? ⟨b, i, none⟩ = some (.int k (f i)) := by
  unfold World.cell?; rw [show w.heap[(⟨b, i, none⟩ : Addr).block]? = _ from h]
  simp [icells_get k n f i hi]
theorem Arr.free (h : Arr w b t k n f) (i : Nat) : w.frozen? ⟨b, i, none⟩ = false := by
  unfold World.frozen?; rw [show w.heap[(⟨b, i, none⟩ : Addr).block]? = _ from h]; simp
theorem Arr.lt (h : Arr w b t k n f) : b < w.heap.size := (Array.getElem?_eq_some_iff.1 h).1
theorem Arr.congr {g : Nat → Int} (h : Arr w b t k n f) (e : ∀ i, i < n → f i = g i) : Arr w b t k n g := by
  unfold Arr; rw [← icells_congr e]; exact h
theorem Arr.set (h : Arr w b t k n f) (i : Nat) (v : Int) : Arr (w.setCell ⟨b, i, none⟩ (.int k v)) b t k n (upd f i v) := by
  unfold Arr at h ⊢
  have hlt := (Array.getElem?_eq_some_iff.1 h).1
  simp only [World.setCell, Array.getElem?_modify, if_true, h, Option.map_some]
  simp [icells_set]
theorem Arr.other (h : Arr w b t k n f) {a : Addr} (ha : a.block ≠ b) (v : Value) : Arr (w.setCell a v) b t k n f := by
  unfold Arr at h ⊢
  rw [Below.heap_setCell _ _ _ _ (fun e => ha e.symm)]; exact h
theorem Arr.alloc (h : Arr w b t k n f) (o : Obj) : Arr (w.alloc o) b t k n f := by
  unfold Arr; rw [Below.heap_alloc _ _ _ h.lt]; exact h
theorem Arr.drew (h : Arr w b t k n f) : Arr w.drew b t k n f := h
theorem Arr.below {B : Nat} {w' : World} (h : Arr w b t k n f) (hb : Below B w w') (hB : b < B) : Arr w' b t k n f := by
  unfold Arr; rw [hb.block b hB]; exact h
theorem Arr.new (w : World) (t : TypeId) (k : IntKind) (n : Nat) (f : Nat → Int) : Arr (w.alloc (.cells (icells k n f) t)) w.heap.size t k n f := heap_alloc_new w _
end
/-- make([]T, n) of an integer type: a new row of zeros -/
theorem wpList_make_arr {P : Program} (w : World) {ops : Array Oper} {rest : List Oper} {o : Oper} {a : Act} {Q : Exit → Act → World → Prop}
    (hg : o.guard = none) (l c : Operand) (t : TypeId) (hop : o.op = Op.makeSlice t l c)
    (e : TypeId) (i : TypeInfo) (k : IntKind) (bytes : Nat) (h1 : P.underlying t = some (.slice e)) (h2 : P.info? e = some i) (h3 : i.zero = some (.int k 0)) (h4 : i.size = 1) (h5 : i.bytes = bytes)
    (kl kc : IntKind) (L C : Int) (n : Nat) (hl : a.eval l = .int kl L) (hc : a.eval c = .int kc C) (hL : L = (n : Int)) (hC : C = (n : Int)) (b2 : bytes * n ≤ 281474976710656) (b3 : n ≤ maxLen)
    (hK : ∀ w', Arr w' w.heap.size e k n (fun _ => 0) → Below w.heap.size w w' → w.heap.size < w'.heap.size → wpList P ops Q rest (a.put o.dst (.slice (some ⟨w.heap.size, 0, none⟩) n n)) w') :
    wpList P ops Q (o :: rest) a w := by
  refine wpList_plain hg fun K hK' => ?_
  subst hL
  subst hC
  subst h5
  have hrun := run_make (P := P) w t e i (.int k 0) h1 h2 h3 kl kc n n (by omega) (Int.le_refl _) (by rw [← Int.natCast_mul]; omega) (by unfold maxLen at b3; omega)
  rw [h4, Nat.mul_one, show (Value.int k 0).cells = #[Value.int k 0] from rfl, madeCells_int] at hrun
  simp only [Int.toNat_natCast] at hrun
  unfold Oper.wp
  simp [execOp, hop, hl, hc, hrun, Result.andThen]
  exact hK' _ _ (hK _ (Arr.new _ _ _ _ _) ((Below.refl _ _).alloc (Nat.le_refl _) _) (by simp))
/-- var x [n]int: a new row of zeros behind a pointer -/
theorem wpList_alloc_arr {P : Program} (w : World) {ops : Array Oper} {rest : List Oper} {o : Oper} {a : Act} {Q : Exit → Act → World → Prop}
    (hg : o.guard = none) (t : TypeId) (hop : o.op = Op.alloc t) (i : TypeInfo) (z : Value) (k : IntKind) (n : Nat) (f : Nat → Int) (h2 : P.info? t = some i) (h3 : i.zero = some z) (hz : z.cells = icells k n f)
    (hK : ∀ w', Arr w' w.heap.size t k n f → Below w.heap.size w w' → w.heap.size < w'.heap.size → wpList P ops Q rest (a.put o.dst (.pointer (some ⟨w.heap.size, 0, none⟩))) w') :
    wpList P ops Q (o :: rest) a w := by
  refine wpList_plain hg fun K hK' => ?_
  have hrun : (Instr.alloc t true (.tuple #[])).run P w = .ok (.pointer (some ⟨w.heap.size, 0, none⟩)) (w.alloc (.cells (icells k n f) t)) := by
    simp [Instr.alloc, zeroValue, typeInfo, h2, h3, newVar, newRow, hz]
  unfold Oper.wp
  simp [execOp, hop, hrun, Result.andThen]
  exact hK' _ _ (hK _ (Arr.new _ _ _ _ _) ((Below.refl _ _).alloc (Nat.le_refl _) _) (by simp))

theorem setRow_below {w : World} {b : Nat} {cs : Array Value} {B : Nat} (hB : B ≤ b) : Below B w (w.setRow b cs) :=
  ⟨rfl, rfl, rfl, by simp, fun k hk => setRow_other w b k _ (by omega)⟩
/-- clear(row) -/
theorem wpList_clear_arr {P : Program} {w : World} {ops : Array Oper} {rest : List Oper} {o : Oper} {a : Act} {Q : Exit → Act → World → Prop}
    (hg : o.guard = none) (x : Operand) (t : TypeId) (hop : o.op = Op.call { callee := .builtin .clear, args := #[x], argTypes := #[t] })
    (e T : TypeId) (i : TypeInfo) (k : IntKind) (n c b : Nat) (f : Nat → Int) (ht : P.underlying t = some (.slice e)) (h2 : P.info? e = some i) (h3 : i.zero = some (.int k 0))
    (hx : a.eval x = .slice (some ⟨b, 0, none⟩) (n + 1) c) (ha : Arr w b T k (n + 1) f)
    (hK : ∀ w', Arr w' b T k (n + 1) (fun _ => 0) → (∀ B, B ≤ b → Below B w w') → wpList P ops Q rest (a.put o.dst (.tuple #[])) w') :
    wpList P ops Q (o :: rest) a w := by
  refine wpList_plain hg fun K hK' => ?_
  have hz : Builtin.zeroCells #[Value.int k 0] (n + 1) = icells k (n + 1) (fun _ => 0) := by
    apply Array.ext
    · simp [Builtin.zeroCells, icells]
    · intro j h1 h2
      simp [Builtin.zeroCells, icells, Nat.mod_one]
  have hs := run_storeCells_at P b 0 T ((icells k (n + 1) (fun _ => 0)).toList) 0 (icells k (n + 1) f) w ha (by simp [size_icells]) (by
    intro u hu
    simp [icells] at hu
    obtain ⟨_, _, rfl⟩ := hu
    rfl)
  have hlen : (icells k (n + 1) f).toList.length = n + 1 := by simp [size_icells]
  have hlen0 : (icells k (n + 1) (fun _ => 0)).toList.length = n + 1 := by simp [size_icells]
  have he : ((icells k (n + 1) f).toList.take (0 + 0) ++ (icells k (n + 1) (fun _ => 0)).toList ++ (icells k (n + 1) f).toList.drop (0 + 0 + (icells k (n + 1) (fun _ => 0)).toList.length)).toArray = icells k (n + 1) (fun _ => 0) := by
    rw [List.drop_of_length_le (by rw [hlen, hlen0]; omega)]; simp
  rw [he] at hs
  have hrun : (Builtin.clear_ #[t] o.type #[.slice (some ⟨b, 0, none⟩) (n + 1) c]).run P w = .ok (.tuple #[]) (w.setRow b (icells k (n + 1) (fun _ => 0))) := by
    simp only [Builtin.clear_]
    simp [run_underlying ht, zeroValue, typeInfo, h2, h3]
    rw [show (Value.int k 0).cells = #[Value.int k 0] from rfl, hz, hs]
    rfl
  unfold Oper.wp
  simp [execOp, hop, resolve, invoke, builtin, hx, hrun, Result.andThen]
  exact hK' _ _ (hK _ (setRow_heap w b _ _ T (0, 0) ha) (fun B hB => setRow_below hB))
/-- a store of an integer into a cell that is known -/
theorem wpList_store_int {P : Program} {w : World} {ops : Array Oper} {rest : List Oper} {o : Oper} {a : Act} {Q : Exit → Act → World → Prop}
    (hg : o.guard = none) (hd : o.dst = none) (t : TypeId) (p v : Operand) (hop : o.op = Op.store t p v) (b i : Nat) (k : IntKind) (n : Int) (old : Value)
    (hp : a.eval p = .pointer (some ⟨b, i, none⟩)) (hv : a.eval v = .int k n) (hc : w.cell? ⟨b, i, none⟩ = some old) (hf : w.frozen? ⟨b, i, none⟩ = false)
    (ti : TypeInfo) (hi : P.info? t = some ti) (h1 : ti.size = 1)
    (h : wpList P ops Q rest a (w.setCell ⟨b, i, none⟩ (.int k n))) : wpList P ops Q (o :: rest) a w := by
  refine wpList_plain hg fun K hK' => ?_
  unfold Oper.wp
  simp only [execOp, hop, hp, hv]
  go_simp
  simp [sizeOf, typeInfo, hi, h1, Result.andThen]
  have h' := hK' _ _ h
  go_simp
  exact h'
theorem Below.sizeL {B : Nat} {w w' : World} (h : Below B w w') : w.heap.size ≤ w'.heap.size := h.size
end Go.Proofs.YtdlbnioidfhhcaaGreat
