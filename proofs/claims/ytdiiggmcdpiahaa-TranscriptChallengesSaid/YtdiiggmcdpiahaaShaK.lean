/- SHA-256's constants, as both packages lay them. -/
import Derived.Test.YtdiiggmcdpiahaaSha
import Derived.Deep.WholeRow
namespace Go.Proofs.Ytdiiggmcdpiahaa
open Go.RowKit Num
set_option maxRecDepth 20000

def kL : List Int := [1116352408, 1899447441, 3049323471, 3921009573, 961987163, 1508970993, 2453635748, 2870763221, 3624381080, 310598401, 607225278, 1426881987, 1925078388, 2162078206, 2614888103, 3248222580, 3835390401, 4022224774, 264347078, 604807628, 770255983, 1249150122, 1555081692, 1996064986, 2554220882, 2821834349, 2952996808, 3210313671, 3336571891, 3584528711, 113926993, 338241895, 666307205, 773529912, 1294757372, 1396182291, 1695183700, 1986661051, 2177026350, 2456956037, 2730485921, 2820302411, 3259730800, 3345764771, 3516065817, 3600352804, 4094571909, 275423344, 430227734, 506948616, 659060556, 883997877, 958139571, 1322822218, 1537002063, 1747873779, 1955562222, 2024104815, 2227730452, 2361852424, 2428436474, 2756734187, 3204031479, 3329325298]
def hL : List Int := [1779033703, 3144134277, 1013904242, 2773480762, 1359893119, 2600822924, 528734635, 1541459225]
/-- the constant of a round -/
def kf (i : Nat) : Int := kL.getD i 0
/-- a word of the first state -/
def hf (i : Nat) : Int := hL.getD i 0

section
variable {P : Program} {ops : Array Oper} {rest : List Oper} {o : Oper} {a : Act} {w : World} {Q : Exit → Act → World → Prop} {k : IntKind} {n b : Nat} {f g : Nat → Int}
theorem icells_one (k : IntKind) (n : Nat) (f : Nat → Int) : (icells k n f).all (·.oneCell') = true := by
  rw [Array.all_eq_true]
  intro i h
  simp [icells, Value.oneCell']
/-- a literal of an array of integers -/
theorem wpList_build_arr (hg : o.guard = none) (t : TypeId) (parts : Array (Nat × Operand)) (ho : o.op = .build t parts) (k : IntKind) (n : Nat) (f : Nat → Int)
    (hb : P.built t (parts.map fun (i, x) => (i, a.eval x)).toList = some (icells k n f))
    (h : wpList P ops Q rest (a.put o.dst (.agg (icells k n f))) w) : wpList P ops Q (o :: rest) a w :=
  wpList_build hg t parts ho (by rw [hb]; rfl) (by rw [hb]; exact h)
/-- a whole array of integers out of its block -/
theorem wpList_load_arr (hgd : o.guard = none) (ty : TypeId) (x : Operand) (ho : o.op = .load ty x) (b : Nat) (hx : a.eval x = .pointer (some ⟨b, 0, none⟩)) {t : TypeId} (ha : Arr w b t k n f)
    (m : Nat) (e : TypeId) (hu : P.underlying ty = some (.array m e)) (hi : (P.info? ty).map (·.size) = some n)
    (h : wpList P ops Q rest (a.put o.dst (.agg (icells k n f))) w) : wpList P ops Q (o :: rest) a w :=
  wpList_load_row hgd ty x ho b hx t (icells k n f) (0, 0) _ ha hu rfl (by rw [size_icells]; exact hi) h
/-- a whole array of integers into its block -/
theorem wpList_store_arr (hgd : o.guard = none) (ty : TypeId) (x y : Operand) (ho : o.op = .store ty x y) (b : Nat) (hx : a.eval x = .pointer (some ⟨b, 0, none⟩)) (hy : a.eval y = .agg (icells k n f))
    {t : TypeId} (ha : Arr w b t k n g) (hi : (P.info? ty).map (·.size) = some n)
    (h : ∀ w', Arr w' b t k n f → w'.heap.size = w.heap.size → (∀ j, j ≠ b → w'.heap[j]? = w.heap[j]?) → (∀ B, B ≤ b → Below B w w') → wpList P ops Q rest (a.put o.dst undef) w') : wpList P ops Q (o :: rest) a w :=
  wpList_store_row hgd ty x y ho b (icells k n f) hx hy t (icells k n g) ha (by rw [size_icells]; exact hi) (by rw [size_icells, size_icells]) (icells_one _ _ _)
    (h _ (setRow_heap _ _ _ _ _ _ ha) (by simp) (fun j hj => setRow_other _ _ _ _ hj) (fun B hB => setRow_below hB))
/-- the result is a whole array -/
theorem bodyPost_arr {fn : Func} {R : Ending → World → Prop} {p : Tmp} {ty : TypeId} (h : fn.results = #[.cell p ty]) (b : Nat) (hp : a.tmps.getD p undef = .pointer (some ⟨b, 0, none⟩)) {t : TypeId} (ha : Arr w b t k n f)
    (m : Nat) (e : TypeId) (hu : P.underlying ty = some (.array m e)) (hi : (P.info? ty).map (·.size) = some n) (hd : a.defers = []) (hR : R (.returned (.agg (icells k n f))) w) : bodyPost P fn R Exit.ret a w :=
  bodyPost_ret (results_cell_row h _ _ b t (icells k n f) (0, 0) _ hp ha hu rfl (by rw [size_icells]; exact hi)) hd hR
end
theorem Arr.made {w : World} {cs : Array Value} {t : TypeId} {k : IntKind} {n : Nat} {f : Nat → Int} (h : cs = icells k n f) : Arr (w.alloc (.cells cs t)) w.heap.size t k n f := by subst h; exact Arr.new _ _ _ _ _
theorem info_w64 : (Try.prog.info? 115).map (fun i => (i.zero, i.size)) = some (some (.agg (icells .u32 64 (fun _ => 0))), 64) := by kernel_rfl
theorem info_w8 : (Try.prog.info? 107).map (fun i => (i.zero, i.size)) = some (some (.agg (icells .u32 8 (fun _ => 0))), 8) := by kernel_rfl
theorem zero_parts {t : TypeId} {k : IntKind} {n : Nat} (h : (Try.prog.info? t).map (fun i => (i.zero, i.size)) = some (some (.agg (icells k n (fun _ => 0))), n)) :
    ∃ i, Try.prog.info? t = some i ∧ i.zero = some (.agg (icells k n (fun _ => 0))) ∧ i.size = n := by
  cases hq : Try.prog.info? t with
  | none => simp [hq] at h
  | some i => simp [hq] at h; exact ⟨i, rfl, h.1, h.2⟩
theorem first_any (w : World) :
    Calls Try.prog 78 #[] w fun e w' => e = .returned (.agg (icells .u32 8 hf)) ∧ Below w.heap.size w w' := by
  go_enter Try.func78, Try.ntmps78
  go_wp2
  exact bodyPost_arr (f := hf) rfl w.heap.size rfl (t := 107) (Arr.made (by kernel_rfl)) 8 72 (by kernel_rfl) (by kernel_rfl) rfl ⟨rfl, (Below.refl _ _).alloc (Nat.le_refl _) _⟩
theorem constants_any (w : World) :
    Calls Try.prog 89 #[] w fun e w' => e = .returned (.agg (icells .u32 64 kf)) ∧ Below w.heap.size w w' := by
  obtain ⟨i, hi, hz, hs⟩ := zero_parts info_w64
  go_enter Try.func89, Try.ntmps89
  go_wp2_with (first
    | (with_reducible refine wpList_alloc_arr _ rfl 115 rfl i _ .u32 64 (fun _ => 0) hi hz rfl ?_; intro w1 ha hb hsz)
    | (with_reducible refine wpList_build_arr rfl 115 _ rfl .u32 64 kf (by kernel_rfl) ?_)
    | (with_reducible refine wpList_store_arr rfl 115 _ _ rfl w.heap.size rfl rfl ha (by kernel_rfl) ?_; intro w2 ha2 hs2 _ hb2))
  exact bodyPost_arr rfl w.heap.size rfl ha2 64 72 (by kernel_rfl) (by kernel_rfl) rfl ⟨rfl, hb.trans (hb2 _ (Nat.le_refl _))⟩
theorem refconstants_any (w : World) :
    Calls Try.prog 63 #[] w fun e w' => e = .returned (.slice (some ⟨w.heap.size, 0, none⟩) 64 64) ∧ Arr w' w.heap.size 72 .u32 64 kf ∧ Below w.heap.size w w' := by
  go_enter Try.func63, Try.ntmps63
  go_wp2
  go_ret
  exact ⟨rfl, Arr.made (by kernel_rfl), (Below.refl _ _).alloc (Nat.le_refl _) _⟩
end Go.Proofs.Ytdiiggmcdpiahaa
