/- Whole arrays of integers by value. -/
import Derived.Test.YtjminjliomffaaaDoorArr
import Derived.Deep.WholeRow
namespace Go.Proofs.YtjminjliomffaaaDoor
open Go.RowKit Num
set_option maxRecDepth 20000

section
variable {P : Program} {ops : Array Oper} {rest : List Oper} {o : Oper} {a : Act} {w : World} {Q : Exit → Act → World → Prop} {k : IntKind} {n b : Nat} {f g : Nat → Int}
theorem icells_one (k : IntKind) (n : Nat) (f : Nat → Int) : (icells k n f).all (·.oneCell') = true := by
  rw [Array.all_eq_true]
  intro i h
  simp [icells, Value.oneCell']
/-- a literal of an array of integers -/
theorem wpList_build_arr (hg : o.guard = none) (t : TypeId) (parts : Array (Nat × Operand)) (ho : o.op = .build t parts) (k : IntKind) (n : Nat) (f : Nat → Int)
    (hb : P.built t (parts.map fun (i, x) => (i, a.eval x)).toList = some (icells k n f))
    (h : wpList P ops Q rest (a.put o.dst (.agg (icells k n f))) w) : wpList P ops Q (o :: rest) a w :=
  wpList_build hg t parts ho (by rw [hb]; rfl) (by rw [hb]; exact h)
/-- a whole array of integers out of its block -/
theorem wpList_load_arr (hgd : o.guard = none) (ty : TypeId) (x : Operand) (ho : o.op = .load ty x) (b : Nat) (hx : a.eval x = .pointer (some ⟨b, 0, none⟩)) {t : TypeId} (ha : Arr w b t k n f)
    (m : Nat) (e : TypeId) (hu : P.underlying ty = some (.array m e)) (hi : (P.info? ty).map (·.size) = some n)
    (h : wpList P ops Q rest (a.put o.dst (.agg (icells k n f))) w) : wpList P ops Q (o :: rest) a w :=
  wpList_load_row hgd ty x ho b hx t (icells k n f) (0, 0) _ ha hu rfl (by rw [size_icells]; exact hi) h
/-- a whole array of integers into its block -/
theorem wpList_store_arr (hgd : o.guard = none) (ty : TypeId) (x y : Operand) (ho : o.op = .store ty x y) (b : Nat) (hx : a.eval x = .pointer (some ⟨b, 0, none⟩)) (hy : a.eval y = .agg (icells k n f))
    {t : TypeId} (ha : Arr w b t k n g) (hi : (P.info? ty).map (·.size) = some n)
    (h : ∀ w', Arr w' b t k n f → w'.heap.size = w.heap.size → (∀ j, j ≠ b → w'.heap[j]? = w.heap[j]?) → (∀ B, B ≤ b → Below B w w') → wpList P ops Q rest (a.put o.dst undef) w') : wpList P ops Q (o :: rest) a w :=
  wpList_store_row hgd ty x y ho b (icells k n f) hx hy t (icells k n g) ha (by rw [size_icells]; exact hi) (by rw [size_icells, size_icells]) (icells_one _ _ _)
    (h _ (setRow_heap _ _ _ _ _ _ ha) (by simp) (fun j hj => setRow_other _ _ _ _ hj) (fun B hB => setRow_below hB))
/-- the result is a whole array -/
theorem bodyPost_arr {fn : Func} {R : Ending → World → Prop} {p : Tmp} {ty : TypeId} (h : fn.results = #[.cell p ty]) (b : Nat) (hp : a.tmps.getD p undef = .pointer (some ⟨b, 0, none⟩)) {t : TypeId} (ha : Arr w b t k n f)
    (m : Nat) (e : TypeId) (hu : P.underlying ty = some (.array m e)) (hi : (P.info? ty).map (·.size) = some n) (hd : a.defers = []) (hR : R (.returned (.agg (icells k n f))) w) : bodyPost P fn R Exit.ret a w :=
  bodyPost_ret (results_cell_row h _ _ b t (icells k n f) (0, 0) _ hp ha hu rfl (by rw [size_icells]; exact hi)) hd hR
end
theorem Arr.made {w : World} {cs : Array Value} {t : TypeId} {k : IntKind} {n : Nat} {f : Nat → Int} (h : cs = icells k n f) : Arr (w.alloc (.cells cs t)) w.heap.size t k n f := by subst h; exact Arr.new _ _ _ _ _
/-- a[i] of an array of integers by value -/
theorem run_index_arr {P : Program} {k : IntKind} {n : Nat} {f : Nat → Int} (t e : TypeId) (ki : IntKind) (i : Nat) (w : World) (h : P.underlying t = some (.array n e)) (hi : i < n) (ti : TypeInfo) (h1 : P.info? e = some ti) (h2 : ti.size = 1) (d : TypeDesc) (hd : P.underlying e = some d) (hs : (match d with | .struct _ | .array _ _ => true | _ => false) = false) :
    (Instr.index t (.agg (icells k n f)) (.int ki (i : Int))).run P w = .ok (.int k (f i)) w := by
  have hb : 0 ≤ (i : Int) ∧ (i : Int) < (n : Int) := by omega
  simp [Instr.index, run_underlying h, asIntOf, hb, go_sem, sizeOf, typeInfo, h1, h2, icells_get k n f i hi, part]
  rw [if_pos hi]
  have ha : (isAgg e).run P w = .ok false w := by
    cases d <;> simp_all [isAgg, run_underlying hd]
  rw [ha]
  simp [Result.andThen]
end Go.Proofs.YtjminjliomffaaaDoor
