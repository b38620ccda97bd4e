import Derived.Test.YtdlbnioidfhhcaaGreatIcD
/- intcommit.Equal. -/
namespace Go.Proofs.YtdlbnioidfhhcaaGreat
open Go.RowKit Num
set_option maxRecDepth 20000
set_option linter.unusedVariables false
/-- a number in a variable -/
def NVB (w : World) (b : Nat) (s : ByteArray) : Prop := w.heap[b]? = some (.cells #[.string s] 22 (0, 0))
theorem NVB.lt {w : World} {b : Nat} {s : ByteArray} (h : NVB w b s) : b < w.heap.size := (Array.getElem?_eq_some_iff.1 h).1
theorem NVB.c0 {w : World} {b : Nat} {s : ByteArray} (h : NVB w b s) : w.cell? ⟨b, 0, none⟩ = some (.string s) := by rw [Lib.cell_of_heap h]; rfl
theorem NVB.new (w : World) (s : ByteArray) : NVB (w.alloc (.cells #[.string s] 22)) w.heap.size s := heap_alloc_new w _
theorem NVB.below {w w' : World} {b K : Nat} {s : ByteArray} (h : NVB w b s) (hb : Below K w w') (hK : b < K) : NVB w' b s := (hb.block b hK).trans h
/-- a statement variable, by its cells -/
def OBX (w : World) (b : Nat) (v0 v1 v2 : Value) : Prop := w.heap[b]? = some (.cells #[v0, v1, v2] 42 (0, 0))
section
variable {w w' : World} {b K : Nat} {v0 v1 v2 : Value}
theorem OBX.lt (h : OBX w b v0 v1 v2) : b < w.heap.size := (Array.getElem?_eq_some_iff.1 h).1
theorem OBX.c0 (h : OBX w b v0 v1 v2) : w.cell? ⟨b, 0, none⟩ = some v0 := by rw [Lib.cell_of_heap h]; rfl
theorem OBX.c1 (h : OBX w b v0 v1 v2) : w.cell? ⟨b, 1, none⟩ = some v1 := by rw [Lib.cell_of_heap h]; rfl
theorem OBX.c2 (h : OBX w b v0 v1 v2) : w.cell? ⟨b, 2, none⟩ = some v2 := by rw [Lib.cell_of_heap h]; rfl
theorem OBX.f (h : OBX w b v0 v1 v2) (i : Nat) : w.frozen? ⟨b, i, none⟩ = false := Lib.frozen_of_heap h i
theorem OBX.below (h : OBX w b v0 v1 v2) (hb : Below K w w') (hK : b < K) : OBX w' b v0 v1 v2 := (hb.block b hK).trans h
theorem OBX.new (w : World) (v0 v1 v2 : Value) : OBX (w.alloc (.cells #[v0, v1, v2] 42)) w.heap.size v0 v1 v2 := heap_alloc_new w _
theorem OBX.put {x0 x1 x2 : Value} (h : OBX w b v0 v1 v2) : OBX (((w.setCell ⟨b, 0, none⟩ x0).setCell ⟨b, 1, none⟩ x1).setCell ⟨b, 2, none⟩ x2) b x0 x1 x2 := put1 (put1 (put1 h))
end
theorem results_cellT {fn : Func} {p u : Tmp} {ty : TypeId} (h : fn.results = #[.cell p ty, .tmp u]) (tmps : Array Value) (P : Program) (w : World) :
    (results fn tmps).run P w = ((asAddr (tmps.getD p undef)).run P w).andThen fun a w₁ => ((loadVar ty a).run P w₁).andThen fun x w₂ => .ok (.tuple #[x, tmps.getD u undef]) w₂ := by
  simp only [results, h]
  simp [Sem.run_bind, Result.andThen]
theorem bodyPost_stt {fn : Func} {R : Ending → World → Prop} {p q : Tmp} {a : Act} {W : World} {b : Nat} {v0 v1 v2 x : Value} (h : fn.results = #[.cell p 42, .tmp q]) (hp : a.tmps.getD p undef = .pointer (some ⟨b, 0, none⟩))
    (hx : a.tmps.getD q undef = x) (hb : OBX W b v0 v1 v2) (hd : a.defers = []) (hR : R (.returned (.tuple #[.agg #[v0, v1, v2], x])) W) : bodyPost Tryz.prog fn R Exit.ret a W := by
  refine bodyPost_ret (v := .tuple #[.agg #[v0, v1, v2], x]) (w := W) ?_ hd hR
  rw [results_cellT h, hp, hx]
  simp [asAddr, Result.andThen, run_loadVar_row W b _ _ _ (0, 0) _ hb Tryz.underlying42 rfl (by kernel_rfl)]
/-- the boxes of Equal -/
structure BX7 (w : World) (m : Nat) (k l : PK) (A B V R : ByteArray) : Prop where
  y : KYB w m k.M k.O k.G k.H
  z : KYB w (m + 1) l.M l.O l.G l.H
  a : NVB w (m + 2) A
  b : NVB w (m + 3) B
  v : NVB w (m + 4) V
  r : NVB w (m + 5) R
theorem BX7.below {w w' : World} {m K : Nat} {k l : PK} {A B V R : ByteArray} (h : BX7 w m k l A B V R) (hb : Below K w w') (hK : m + 6 ≤ K) : BX7 w' m k l A B V R :=
  ⟨h.y.below hb (by omega), h.z.below hb (by omega), h.a.below hb (by omega), h.b.below hb (by omega), h.v.below hb (by omega), h.r.below hb (by omega)⟩
theorem box7 (w : World) (k l : PK) (A B V R : ByteArray) : ∃ W, ((((((w.alloc (.cells #[.string k.M, .string k.O, .string k.G, .string k.H] 28)).alloc (.cells #[.string l.M, .string l.O, .string l.G, .string l.H] 28)).alloc (.cells #[.string A] 22)).alloc (.cells #[.string B] 22)).alloc (.cells #[.string V] 22)).alloc (.cells #[.string R] 22)) = W ∧
    BX7 W w.heap.size k l A B V R ∧ Below w.heap.size w W ∧ W.heap.size = w.heap.size + 6 := by
  have al := fun (W : World) (o : Obj) => (Below.refl W.heap.size W).alloc (Nat.le_refl _) o
  obtain ⟨W1, e1⟩ : ∃ W, w.alloc (.cells #[.string k.M, .string k.O, .string k.G, .string k.H] 28) = W := ⟨_, rfl⟩
  obtain ⟨W2, e2⟩ : ∃ W, W1.alloc (.cells #[.string l.M, .string l.O, .string l.G, .string l.H] 28) = W := ⟨_, rfl⟩
  obtain ⟨W3, e3⟩ : ∃ W, W2.alloc (.cells #[.string A] 22) = W := ⟨_, rfl⟩
  obtain ⟨W4, e4⟩ : ∃ W, W3.alloc (.cells #[.string B] 22) = W := ⟨_, rfl⟩
  obtain ⟨W5, e5⟩ : ∃ W, W4.alloc (.cells #[.string V] 22) = W := ⟨_, rfl⟩
  obtain ⟨W6, e6⟩ : ∃ W, W5.alloc (.cells #[.string R] 22) = W := ⟨_, rfl⟩
  have a1 := al w (.cells #[.string k.M, .string k.O, .string k.G, .string k.H] 28)
  have a2 := al W1 (.cells #[.string l.M, .string l.O, .string l.G, .string l.H] 28)
  have a3 := al W2 (.cells #[.string A] 22)
  have a4 := al W3 (.cells #[.string B] 22)
  have a5 := al W4 (.cells #[.string V] 22)
  have a6 := al W5 (.cells #[.string R] 22)
  have h1 := KYB.new w k.M k.O k.G k.H
  have h2 := KYB.new W1 l.M l.O l.G l.H
  have h3 := NVB.new W2 A
  have h4 := NVB.new W3 B
  have h5 := NVB.new W4 V
  have h6 := NVB.new W5 R
  have s1 : W1.heap.size = w.heap.size + 1 := by rw [← e1]; simp
  have s2 : W2.heap.size = w.heap.size + 2 := by rw [← e2]; simp [s1]
  have s3 : W3.heap.size = w.heap.size + 3 := by rw [← e3]; simp [s2]
  have s4 : W4.heap.size = w.heap.size + 4 := by rw [← e4]; simp [s3]
  have s5 : W5.heap.size = w.heap.size + 5 := by rw [← e5]; simp [s4]
  have s6 : W6.heap.size = w.heap.size + 6 := by rw [← e6]; simp [s5]
  rw [e1, e2, e3, e4, e5, e6]
  rw [e1] at h1 a1
  rw [e2] at h2 a2
  rw [e3] at h3 a3
  rw [e4] at h4 a4
  rw [e5] at h5 a5
  rw [e6] at h6 a6
  rw [s1] at h2 a2
  rw [s2] at h3 a3
  rw [s3] at h4 a4
  rw [s4] at h5 a5
  rw [s5] at h6 a6
  refine ⟨W6, rfl, ⟨?_, ?_, ?_, ?_, ?_, h6⟩, ?_, s6⟩
  · exact ((((h1.below a2 (by omega)).below a3 (by omega)).below a4 (by omega)).below a5 (by omega)).below a6 (by omega)
  · exact (((h2.below a3 (by omega)).below a4 (by omega)).below a5 (by omega)).below a6 (by omega)
  · exact ((h3.below a4 (by omega)).below a5 (by omega)).below a6 (by omega)
  · exact (h4.below a5 (by omega)).below a6 (by omega)
  · exact h5.below a6 (by omega)
  · exact ((((a1.trans (a2.mono (by omega))).trans (a3.mono (by omega))).trans (a4.mono (by omega))).trans (a5.mono (by omega))).trans (a6.mono (by omega))
/-- the error of Equal -/
def eqlE (k l : PK) (A B V R : ByteArray) : Int :=
  fst6 (if (([k.M, k.O, k.G, k.H] ++ [l.M, l.O, l.G, l.H]) ++ [A, B, V, R]).all validB = true then 0 else 3) k.e (tyE k.O l) (if hasB k.M k.O A = true then 0 else 13) (if hasB l.M l.O B = true then 0 else 13) (if emB V = true ∨ emB R = true then 2 else 0)
/-- the six functions -/
def fnC (m : Nat) : Array Value := #[.func (.func 13) #[] #[.pointer (some ⟨m, 0, none⟩), .pointer (some ⟨m + 1, 0, none⟩), .pointer (some ⟨m + 2, 0, none⟩), .pointer (some ⟨m + 3, 0, none⟩), .pointer (some ⟨m + 4, 0, none⟩), .pointer (some ⟨m + 5, 0, none⟩)],
  .func (.func 16) #[] #[.pointer (some ⟨m, 0, none⟩)], .func (.func 18) #[] #[.pointer (some ⟨m, 0, none⟩), .pointer (some ⟨m + 1, 0, none⟩)],
  .func (.func 20) #[] #[.pointer (some ⟨m, 0, none⟩), .pointer (some ⟨m + 2, 0, none⟩)], .func (.func 22) #[] #[.pointer (some ⟨m + 1, 0, none⟩), .pointer (some ⟨m + 3, 0, none⟩)],
  .func (.func 23) #[] #[.pointer (some ⟨m + 4, 0, none⟩), .pointer (some ⟨m + 5, 0, none⟩)]]
theorem ifirst_eq (m q c : Nat) (k l : PK) (A B V R : ByteArray) (w : World) (hB : BX7 w m k l A B V R) (hm : m + 6 ≤ w.heap.size) (hf : w.heap[q]? = some (.cells (fnC m) 60 (0, 0))) :
    Calls Tryz.prog 12 #[.slice (some ⟨q, 0, none⟩) 6 c] w fun e w' => e = .returned (.int .i64 (eqlE k l A B V R)) ∧ Below w.heap.size w w' := by
  refine ifirst_any m (m + 1) (m + 2) (m + 3) (m + 4) (m + 5) q c _ _ _ _ _ _ w ?_ ?_ ?_ ?_ ?_ ?_ ?_ ?_ ?_ ?_ ?_ ?_
  · rw [Lib.cell_of_heap hf]; rfl
  · rw [Lib.cell_of_heap hf]; rfl
  · rw [Lib.cell_of_heap hf]; rfl
  · rw [Lib.cell_of_heap hf]; rfl
  · rw [Lib.cell_of_heap hf]; rfl
  · rw [Lib.cell_of_heap hf]; rfl
  all_goals
    intro w' hb
    have h := hB.below hb hm
  · exact eqc1_any _ _ _ _ _ _ _ _ _ _ _ _ _ _ A B V R w' h.y h.z h.a.c0 h.b.c0 h.v.c0 h.r.c0
  · exact eqc2_any _ _ _ _ _ w' h.y
  · exact eqc3_any _ _ _ _ _ _ _ _ _ _ w' h.y h.z
  · exact eqc4_any _ _ _ _ _ _ _ w' h.y h.a.c0
  · exact eqc5_any _ _ _ _ _ _ _ w' h.z h.b.c0
  · exact eqc6_any _ _ _ _ w' h.v.c0 h.r.c0
/-- the statement that Equal returns -/
def eqS (k l : PK) (A B V R : ByteArray) (ta : Option Addr) (ca : Nat) (tb : Option Addr) (cb : Nat) : StM :=
  ⟨[(k.M, k.O), (l.M, l.O)], [V, ⟨#[]⟩, R], [(0, A, ta, ca, [(k.G, 0, false, enc 1), (k.H, 1, false, enc 1)]), (1, B, tb, cb, [(l.G, 0, false, enc 1), (l.H, 2, false, enc 1)])]⟩
/-- what Equal returns -/
def EQQ (k l : PK) (A B V R : ByteArray) (w : World) (e : Ending) (w' : World) : Prop :=
  (eqlE k l A B V R ≠ 0 ∧ e = .returned (.tuple #[.agg #[.slice none 0 0, .slice none 0 0, .slice none 0 0], .int .i64 (eqlE k l A B V R)]) ∧ Below w.heap.size w w') ∨
  (eqlE k l A B V R = 0 ∧ ∃ (a : StA) (ta : Option Addr) (ca : Nat) (tb : Option Addr) (cb : Nat), e = .returned (.tuple #[.agg #[.slice a.ga 2 a.gc, .slice a.va 3 a.vc, .slice a.qa 2 a.qc], .int .i64 0]) ∧ SS w' a (eqS k l A B V R ta ca tb cb) ∧ Below w.heap.size w w')
/-- a block -/
def HPB (w : World) (q : Nat) (cs : Array Value) (t : TypeId) : Prop := w.heap[q]? = some (.cells cs t (0, 0))
section
variable {w w' : World} {q p K : Nat} {cs : Array Value} {t : TypeId}
theorem HPB.lt (h : HPB w q cs t) : q < w.heap.size := (Array.getElem?_eq_some_iff.1 h).1
theorem HPB.below (h : HPB w q cs t) (hb : Below w.heap.size w w') : HPB w' q cs t := (hb.block q h.lt).trans h
theorem HPB.new (w : World) (cs : Array Value) (t : TypeId) : HPB (w.alloc (.cells cs t)) w.heap.size cs t := heap_alloc_new w _
theorem HPB.ne {y0 y1 y2 : Value} (h : HPB w q cs t) (k : OBX w p y0 y1 y2) (ht : t ≠ 42) : q ≠ p := fun e => by
  subst e
  have := h.symm.trans k
  injection this with h1
  injection h1 with h2 h3
  exact ht h3
theorem HPB.set3 (h : HPB w q cs t) (hne : q ≠ p) (x0 x1 x2 : Value) : HPB (((w.setCell ⟨p, 0, none⟩ x0).setCell ⟨p, 1, none⟩ x1).setCell ⟨p, 2, none⟩ x2) q cs t :=
  ((setC_other _ p q 2 x2 hne).trans ((setC_other _ p q 1 x1 hne).trans (setC_other _ p q 0 x0 hne))).trans h
theorem own_set3 {B e size n : Nat} {v y0 y1 y2 : Value} {xs : List Value} (h : w.ownsRow B e size v n xs) (k : OBX w p y0 y1 y2) (ht : 42 ≠ e) (x0 x1 x2 : Value) : (((w.setCell ⟨p, 0, none⟩ x0).setCell ⟨p, 1, none⟩ x1).setCell ⟨p, 2, none⟩ x2).ownsRow B e size v n xs := by
  have hn := own_noT h k ht
  exact own_setO (own_setO (own_setO h hn) hn) hn
theorem own_addr {B e size n c : Nat} {ao : Option Addr} {xs : List Value} (h : w.ownsRow B e size (.slice ao (n + 1) c) (n + 1) xs) : ∃ g, ao = some ⟨g, 0, none⟩ ∧ ∀ i v, xs[i]? = some v → w.cell? ⟨g, i, none⟩ = some v := by
  rcases h.2 with ⟨_, h1⟩ | ⟨g, cap, cur, e, _⟩
  · omega
  · injection e with e1 e2 e3
    subst e1
    refine ⟨g, rfl, fun i v hv => ?_⟩
    have := h.cells (g := g) rfl i v hv
    rwa [addr_add] at this
theorem own_TSl2 {B c : Nat} {ao : Option Addr} {s0 s1 e0 e1 : ByteArray} {i0 i1 : Int} {g0 g1 : Bool} (h : w.ownsRow B 94 4 (.slice ao 2 c) 2 (tmc [(s0, i0, g0, e0), (s1, i1, g1, e1)])) : TSl w ao [(s0, i0, g0, e0), (s1, i1, g1, e1)] := by
  obtain ⟨g, rfl, hc⟩ := own_addr h
  intro k hk
  match k, hk with
  | 0, _ => exact ⟨g, 0, rfl, hc 0 _ rfl, hc 1 _ rfl, hc 2 _ rfl, hc 3 _ rfl⟩
  | 1, _ => exact ⟨g, 0, rfl, hc 4 _ rfl, hc 5 _ rfl, hc 6 _ rfl, hc 7 _ rfl⟩
theorem own_NS3 {B e c : Nat} {ao : Option Addr} {s0 s1 s2 : ByteArray} (h : w.ownsRow B e 1 (.slice ao 3 c) 3 ([s0, s1, s2].map Value.string)) : NS w ao [s0, s1, s2] := by
  obtain ⟨g, rfl, hc⟩ := own_addr h
  intro k hk
  match k, hk with
  | 0, _ => exact ⟨g, 0, rfl, hc 0 _ rfl⟩
  | 1, _ => exact ⟨g, 0, rfl, hc 1 _ rfl⟩
  | 2, _ => exact ⟨g, 0, rfl, hc 2 _ rfl⟩
theorem eq_SS {W : World} {q4 q27 B : Nat} {k l : PK} {A C V R : ByteArray} {a8 a17 a26 : Option Addr} {n8 n17 n26 : Nat} {y0 y1 y2 : Value} (hO : OBX W p y0 y1 y2) (h4 : HPB W q4 #[.string k.M, .string k.O, .string l.M, .string l.O] 26)
    (h8 : W.ownsRow B 77 1 (.slice a8 3 n8) 3 ([V, ⟨#[]⟩, R].map Value.string)) (h17 : W.ownsRow B 94 4 (.slice a17 2 n17) 2 (tmc [(k.G, 0, false, enc 1), (k.H, 1, false, enc 1)]))
    (h26 : W.ownsRow B 94 4 (.slice a26 2 n26) 2 (tmc [(l.G, 0, false, enc 1), (l.H, 2, false, enc 1)])) (h27 : HPB W q27 #[.int .i64 0, .string A, .slice a17 2 n17, .int .i64 1, .string C, .slice a26 2 n26] 68) (x0 x1 x2 : Value) :
    SS (((W.setCell ⟨p, 0, none⟩ x0).setCell ⟨p, 1, none⟩ x1).setCell ⟨p, 2, none⟩ x2) ⟨some ⟨q4, 0, none⟩, 2, a8, n8, some ⟨q27, 0, none⟩, 2⟩ (eqS k l A C V R a17 n17 a26 n26) := by
  have k4 := h4.set3 (h4.ne hO (by decide)) x0 x1 x2
  have k27 := h27.set3 (h27.ne hO (by decide)) x0 x1 x2
  have k8 := own_NS3 (own_set3 h8 hO (by decide) x0 x1 x2)
  have k17 := own_TSl2 (own_set3 h17 hO (by decide) x0 x1 x2)
  have k26 := own_TSl2 (own_set3 h26 hO (by decide) x0 x1 x2)
  refine ⟨fun i hi => ?_, k8, fun i hi => ?_⟩
  · match i, hi with
    | 0, _ => exact ⟨q4, 0, rfl, by rw [Lib.cell_of_heap k4]; rfl, by rw [Lib.cell_of_heap k4]; rfl⟩
    | 1, _ => exact ⟨q4, 0, rfl, by rw [Lib.cell_of_heap k4]; rfl, by rw [Lib.cell_of_heap k4]; rfl⟩
  · match i, hi with
    | 0, _ => exact ⟨q27, 0, rfl, by rw [Lib.cell_of_heap k27]; rfl, by rw [Lib.cell_of_heap k27]; rfl, by rw [Lib.cell_of_heap k27]; rfl, k17⟩
    | 1, _ => exact ⟨q27, 0, rfl, by rw [Lib.cell_of_heap k27]; rfl, by rw [Lib.cell_of_heap k27]; rfl, by rw [Lib.cell_of_heap k27]; rfl, k26⟩
end
section
variable {P : Program} {md : Region.Mode} {ops : Array Oper} {Q : Exit → Act → World → Prop} {S : World → Prop}
/-- the rest of a region by a letter: what follows from a set of operations done is shown once -/
theorem shareF {fuel : Nat} {listed : Array Bool} {a : Act} {w : World} (h : ∀ F : Nat → Array Bool → Act → World → Prop, (∀ n l a w, wpAnyH P md ops Q S n l a w → F n l a w) → (∀ n l a w, F n l a w → wpAnyH P md ops Q S n l a w) → F fuel listed a w) : wpAnyH P md ops Q S fuel listed a w := h _ (fun _ _ _ _ h => h) (fun _ _ _ _ h => h)
theorem shr {F : Nat → Array Bool → Act → World → Prop} {n n' : Nat} {l l' : Array Bool} {a : Act} {w : World} (hn : n' = n) (hl : l' = l) (h : F n' l' a w) : F n l a w := by subst hn; subst hl; exact h
end
set_option maxHeartbeats 16000000 in
theorem iequal_any (k l : PK) (A B V R : ByteArray) (w : World) :
    Calls Tryz.prog 7 #[.agg #[.string k.M, .string k.O, .string k.G, .string k.H], .agg #[.string l.M, .string l.O, .string l.G, .string l.H], .string A, .string B, .string V, .string R] w (EQQ k l A B V R w) := by
  obtain ⟨X, hX, hB, hb, hsz⟩ := box7 w k l A B V R
  have hO := OBX.new X (.slice none 0 0) (.slice none 0 0) (.slice none 0 0)
  have kO := (Below.refl _ X).alloc (Nat.le_refl _) (.cells #[.slice none 0 0, .slice none 0 0, .slice none 0 0] 42)
  obtain ⟨X1, hX1⟩ : ∃ W, X.alloc (.cells #[.slice none 0 0, .slice none 0 0, .slice none 0 0] 42) = W := ⟨_, rfl⟩
  have hs1 : X1.heap.size = w.heap.size + 7 := by rw [← hX1]; simp [hsz]
  rw [hX1] at hO kO
  replace hB := hB.below kO (by omega)
  rw [hsz] at hO
  replace hb := hb.trans (kO.mono hb.size)
  have HFI := Lib.hid (fun q W hB hm hf => ifirst_eq w.heap.size q 6 k l A B V R W hB hm hf)
  obtain ⟨E, hE⟩ : ∃ E, eqlE k l A B V R = E := ⟨_, rfl⟩
  rw [hE] at HFI
  have HE := Lib.hid hE
  clear hE kO
  by_cases hz : E = 0
  rotate_left
  · have ht : (E != 0) = true := by simpa using hz
    go_enter Tryz.func7, Tryz.ntmps7
    go_upto_region 1 with fail
    clear hX hX1
    simp only [Nat.add_assoc, Nat.reduceAdd]
    go_wp2_with fail
    have kF := (Below.refl _ X1).alloc (Nat.le_refl _) (.cells (fnC w.heap.size) 60)
    refine (HFI.out _ _ (hB.below kF (by omega)) (by simp [hs1]) (by rw [← hs1]; exact heap_alloc_new X1 (.cells (fnC w.heap.size) 60))).mono ?_; rintro e w1 ⟨rfl, kb⟩
    replace kb := kF.trans (kb.mono kF.size)
    replace hO := hO.below kb hO.lt
    replace hb := hb.trans (kb.mono hb.size)
    clear kb kF HFI hB
    have y0 := hO.c0
    have y1 := hO.c1
    have y2 := hO.c2
    have f0 := hO.f 0
    have f1 := hO.f 1
    have f2 := hO.f 2
    go_wp2_with fail
    refine bodyPost_stt rfl rfl rfl (OBX.put (x0 := .slice none 0 0) (x1 := .slice none 0 0) (x2 := .slice none 0 0) hO) rfl ?_
    refine .inl ⟨fun h => hz (HE.out.symm.trans h), by rw [HE.out]; rfl, ?_⟩
    exact ((hb.setCell (p := ⟨w.heap.size + 6, 0, none⟩) (by simp) _).setCell (p := ⟨w.heap.size + 6, 1, none⟩) (by simp) _).setCell (p := ⟨w.heap.size + 6, 2, none⟩) (by simp) _
  subst hz
  go_enter Tryz.func7, Tryz.ntmps7
  go_upto_region 1 with fail
  clear hX hX1
  simp only [Nat.add_assoc, Nat.reduceAdd]
  go_wp2_with fail
  have kF := (Below.refl _ X1).alloc (Nat.le_refl _) (.cells (fnC w.heap.size) 60)
  refine (HFI.out _ _ (hB.below kF (by omega)) (by simp [hs1]) (by rw [← hs1]; exact heap_alloc_new X1 (.cells (fnC w.heap.size) 60))).mono ?_; rintro e X2 ⟨rfl, kb⟩
  replace kb := kF.trans (kb.mono kF.size)
  replace hB := hB.below kb (by omega)
  replace hO := hO.below kb hO.lt
  replace hb := hb.trans (kb.mono hb.size)
  clear kb kF HFI hs1 hsz
  go_upto_region 4 with fail
  -- @R4
  refine wp_region_held_drew (S := fun w' => BX7 w' w.heap.size k l A B V R) (by kernel_rfl) (hB.below ((Below.refl _ X2).drew) (Nat.le_of_lt hO.lt)) (fun hS' => ?_)
  refine tkT 0 27 (.pointer (some ⟨w.heap.size, 0, none⟩)) rfl rfl (by kernel_rfl) (fun _ _ _ _ _ h => h) (.inl ⟨by rfl, fun w' hSw => (by go_simp)⟩) (by assumption) ?_
  try simp only [put9T, List.set]
  refine tkT 1 28 (.agg #[.string k.M, .string k.O]) rfl rfl (by kernel_rfl) (fun _ _ _ _ _ h => h) (.inl ⟨by rfl, fun w' hSw => (by have g0 := hSw.y.c0; have g1 := hSw.y.c1; go_simp)⟩) (by assumption) ?_
  try simp only [put9T, List.set]
  refine tkT 2 29 (.pointer (some ⟨w.heap.size + 1, 0, none⟩)) rfl rfl (by kernel_rfl) (fun _ _ _ _ _ h => h) (.inl ⟨by rfl, fun w' hSw => (by go_simp)⟩) (by assumption) ?_
  try simp only [put9T, List.set]
  refine tkT 3 30 (.agg #[.string l.M, .string l.O]) rfl rfl (by kernel_rfl) (fun _ _ _ _ _ h => h) (.inl ⟨by rfl, fun w' hSw => (by have g0 := hSw.z.c0; have g1 := hSw.z.c1; go_simp)⟩) (by assumption) ?_
  try simp only [put9T, List.set]
  refine tkT 5 32 (.string V) rfl rfl (by kernel_rfl) (fun _ _ _ _ _ h => h) (.inl ⟨by rfl, fun w' hSw => (by have g0 := hSw.v.c0; go_simp)⟩) (by assumption) ?_
  try simp only [put9T, List.set]
  refine tkT 6 33 (.string R) rfl rfl (by kernel_rfl) (fun _ _ _ _ _ h => h) (.inl ⟨by rfl, fun w' hSw => (by have g0 := hSw.r.c0; go_simp)⟩) (by assumption) ?_
  try simp only [put9T, List.set]
  refine tkT 7 34 (.agg #[.string V, .string ⟨#[]⟩, .string R]) rfl rfl (by kernel_rfl) (fun _ _ _ _ _ h => h) (.inl ⟨by rfl, fun w' hSw => (by go_simp)⟩) (by assumption) ?_
  try simp only [put9T, List.set]
  refine tkT 9 36 (.string A) rfl rfl (by kernel_rfl) (fun _ _ _ _ _ h => h) (.inl ⟨by rfl, fun w' hSw => (by have g0 := hSw.a.c0; go_simp)⟩) (by assumption) ?_
  try simp only [put9T, List.set]
  refine tkT 10 37 (.pointer (some ⟨w.heap.size, 2, none⟩)) rfl rfl (by kernel_rfl) (fun _ _ _ _ _ h => h) (.inl ⟨by rfl, fun w' hSw => (by go_simp)⟩) (by assumption) ?_
  try simp only [put9T, List.set]
  refine tkT 11 38 (.string k.G) rfl rfl (by kernel_rfl) (fun _ _ _ _ _ h => h) (.inl ⟨by rfl, fun w' hSw => (by have g0 := hSw.y.c2; go_simp)⟩) (by assumption) ?_
  try simp only [put9T, List.set]
  refine tkT 12 39 (.agg #[.string k.G, .int .i64 0]) rfl rfl (by kernel_rfl) (fun _ _ _ _ _ h => h) (.inl ⟨by rfl, fun w' hSw => (by go_simp)⟩) (by assumption) ?_
  try simp only [put9T, List.set]
  refine tkT 13 40 (.pointer (some ⟨w.heap.size, 3, none⟩)) rfl rfl (by kernel_rfl) (fun _ _ _ _ _ h => h) (.inl ⟨by rfl, fun w' hSw => (by go_simp)⟩) (by assumption) ?_
  try simp only [put9T, List.set]
  refine tkT 14 41 (.string k.H) rfl rfl (by kernel_rfl) (fun _ _ _ _ _ h => h) (.inl ⟨by rfl, fun w' hSw => (by have g0 := hSw.y.c3; go_simp)⟩) (by assumption) ?_
  try simp only [put9T, List.set]
  refine tkT 15 42 (.agg #[.string k.H, .int .i64 1]) rfl rfl (by kernel_rfl) (fun _ _ _ _ _ h => h) (.inl ⟨by rfl, fun w' hSw => (by go_simp)⟩) (by assumption) ?_
  try simp only [put9T, List.set]
  refine tkT 18 45 (.string B) rfl rfl (by kernel_rfl) (fun _ _ _ _ _ h => h) (.inl ⟨by rfl, fun w' hSw => (by have g0 := hSw.b.c0; go_simp)⟩) (by assumption) ?_
  try simp only [put9T, List.set]
  refine tkT 19 46 (.pointer (some ⟨w.heap.size + 1, 2, none⟩)) rfl rfl (by kernel_rfl) (fun _ _ _ _ _ h => h) (.inl ⟨by rfl, fun w' hSw => (by go_simp)⟩) (by assumption) ?_
  try simp only [put9T, List.set]
  refine tkT 20 47 (.string l.G) rfl rfl (by kernel_rfl) (fun _ _ _ _ _ h => h) (.inl ⟨by rfl, fun w' hSw => (by have g0 := hSw.z.c2; go_simp)⟩) (by assumption) ?_
  try simp only [put9T, List.set]
  refine tkT 21 48 (.agg #[.string l.G, .int .i64 0]) rfl rfl (by kernel_rfl) (fun _ _ _ _ _ h => h) (.inl ⟨by rfl, fun w' hSw => (by go_simp)⟩) (by assumption) ?_
  try simp only [put9T, List.set]
  refine tkT 22 49 (.pointer (some ⟨w.heap.size + 1, 3, none⟩)) rfl rfl (by kernel_rfl) (fun _ _ _ _ _ h => h) (.inl ⟨by rfl, fun w' hSw => (by go_simp)⟩) (by assumption) ?_
  try simp only [put9T, List.set]
  refine tkT 23 50 (.string l.H) rfl rfl (by kernel_rfl) (fun _ _ _ _ _ h => h) (.inl ⟨by rfl, fun w' hSw => (by have g0 := hSw.z.c3; go_simp)⟩) (by assumption) ?_
  try simp only [put9T, List.set]
  refine tkT 24 51 (.agg #[.string l.H, .int .i64 2]) rfl rfl (by kernel_rfl) (fun _ _ _ _ _ h => h) (.inl ⟨by rfl, fun w' hSw => (by go_simp)⟩) (by assumption) ?_
  try simp only [put9T, List.set]
  replace hB : BX7 X2.drew w.heap.size k l A B V R := hS'
  replace hO : OBX X2.drew _ _ _ _ := hO
  replace hb := hb.drew
  generalize X2.drew = Y0 at hB hO hb hS' ⊢
  have HV := Lib.hid (fun w' => ivariables_any V ⟨#[]⟩ R w')
  have HQ := Lib.hid (fun (g : Int) (T b0 b1 : ByteArray) (v0 v1 : Int) (bo c : Nat) (w' : World) c0 c1 c2 c3 => iequation_any g T b0 b1 v0 v1 bo c w' c0 c1 c2 c3)
  refine shareF (fun F hFi hFo => ?_)
  have N4_8_16_17_25_26_27 : ∀ (W : World) (q4 : Nat) (a8 : Option Addr) (n8 : Nat) (q16 : Nat) (a17 : Option Addr) (n17 : Nat) (q25 : Nat) (a26 : Option Addr) (n26 : Nat) (q27 : Nat), BX7 W w.heap.size k l A B V R → OBX W (w.heap.size + 6) (.slice none 0 0) (.slice none 0 0) (.slice none 0 0) → Below w.heap.size w W → HPB W q4 #[.string k.M, .string k.O, .string l.M, .string l.O] 26 → World.ownsRow W w.heap.size 77 1 (.slice a8 3 n8) 3 ([V, ⟨#[]⟩, R].map Value.string) → World.ownsRow W w.heap.size 94 4 (.slice a17 2 n17) 2 (tmc [(k.G, 0, false, enc 1), (k.H, 1, false, enc 1)]) → World.ownsRow W w.heap.size 94 4 (.slice a26 2 n26) 2 (tmc [(l.G, 0, false, enc 1), (l.H, 2, false, enc 1)]) → HPB W q27 #[.int .i64 0, .string A, .slice a17 2 n17, .int .i64 1, .string B, .slice a26 2 n26] 68 → F 3 #[true, true, true, true, true, true, true, true, true, true, true, true, true, true, true, true, true, true, true, true, true, true, true, true, true, true, true, true, false, false, false] ⟨⟨[.agg #[.string k.M, .string k.O, .string k.G, .string k.H], .agg #[.string l.M, .string l.O, .string l.G, .string l.H], .string A, .string B, .string V, .string R, .pointer (some ⟨w.heap.size, 0, none⟩), .pointer (some ⟨w.heap.size + 1, 0, none⟩), .pointer (some ⟨w.heap.size + 2, 0, none⟩), .pointer (some ⟨w.heap.size + 3, 0, none⟩), .pointer (some ⟨w.heap.size + 4, 0, none⟩), .pointer (some ⟨w.heap.size + 5, 0, none⟩), .pointer (some ⟨w.heap.size + 6, 0, none⟩), .int .i64 0, .int .i64 0, .func (.func 13) #[] #[.pointer (some ⟨w.heap.size, 0, none⟩), .pointer (some ⟨w.heap.size + 1, 0, none⟩), .pointer (some ⟨w.heap.size + 2, 0, none⟩), .pointer (some ⟨w.heap.size + 3, 0, none⟩), .pointer (some ⟨w.heap.size + 4, 0, none⟩), .pointer (some ⟨w.heap.size + 5, 0, none⟩)], .func (.func 16) #[] #[.pointer (some ⟨w.heap.size, 0, none⟩)], .func (.func 18) #[] #[.pointer (some ⟨w.heap.size, 0, none⟩), .pointer (some ⟨w.heap.size + 1, 0, none⟩)], .func (.func 20) #[] #[.pointer (some ⟨w.heap.size, 0, none⟩), .pointer (some ⟨w.heap.size + 2, 0, none⟩)], .func (.func 22) #[] #[.pointer (some ⟨w.heap.size + 1, 0, none⟩), .pointer (some ⟨w.heap.size + 3, 0, none⟩)], .func (.func 23) #[] #[.pointer (some ⟨w.heap.size + 4, 0, none⟩), .pointer (some ⟨w.heap.size + 5, 0, none⟩)], .slice (some ⟨w.heap.size + 7, 0, none⟩) 6 6, .int .i64 0, .int .i64 0, .bool false, undef, undef, .pointer (some ⟨w.heap.size, 0, none⟩), .agg #[.string k.M, .string k.O], .pointer (some ⟨w.heap.size + 1, 0, none⟩), .agg #[.string l.M, .string l.O], .slice (some ⟨q4, 0, none⟩) 2 2, .string V, .string R, .agg #[.string V, .string ⟨#[]⟩, .string R], .slice a8 3 n8, .string A, .pointer (some ⟨w.heap.size, 2, none⟩), .string k.G, .agg #[.string k.G, .int .i64 0], .pointer (some ⟨w.heap.size, 3, none⟩), .string k.H, .agg #[.string k.H, .int .i64 1], .slice (some ⟨q16, 0, none⟩) 2 2, .agg #[.int .i64 0, .string A, .slice a17 2 n17], .string B, .pointer (some ⟨w.heap.size + 1, 2, none⟩), .string l.G, .agg #[.string l.G, .int .i64 0], .pointer (some ⟨w.heap.size + 1, 3, none⟩), .string l.H, .agg #[.string l.H, .int .i64 2], .slice (some ⟨q25, 0, none⟩) 2 2, .agg #[.int .i64 1, .string B, .slice a26 2 n26], .slice (some ⟨q27, 0, none⟩) 2 2, undef]⟩, []⟩ W := by
    intro W q4 a8 n8 q16 a17 n17 q25 a26 n26 q27 hB hO hb h4 h8 h17 h26 h27
    refine hFi _ _ _ _ ?_
    have hS' := hB
    refine tkT 28 55 (.agg #[.slice (some ⟨q4, 0, none⟩) 2 2, .slice a8 3 n8, .slice (some ⟨q27, 0, none⟩) 2 2]) rfl rfl (by kernel_rfl) (fun _ _ _ _ _ h => h) (.inl ⟨by rfl, fun w' hSw => (by go_simp)⟩) (by assumption) ?_
    try simp only [put9T, List.set]
    refine wpAnyH_ready (rs := [29]) (by kernel_rfl) (by simp) ?_
    refine AllReadyH.cons rfl (fun K hK => ?_) AllReadyH.nil
    rw [if_pos (by rfl)]
    have z0 := hO.c0
    have z1 := hO.c1
    have z2 := hO.c2
    have f0 := hO.f 0
    have f1 := hO.f 1
    have f2 := hO.f 2
    go_simp
    refine hK.out _ _ (hB.below ((((Below.refl (w.heap.size + 6) W).setCell (p := ⟨w.heap.size + 6, 0, none⟩) (Nat.le_refl _) _).setCell (p := ⟨w.heap.size + 6, 1, none⟩) (Nat.le_refl _) _).setCell (p := ⟨w.heap.size + 6, 2, none⟩) (Nat.le_refl _) _) (Nat.le_refl _)) (fun hS' => ?_)
    clear hK z0 z1 z2 f0 f1 f2
    try simp only [put9T, List.set]
    refine tkT 30 13 (.int .i64 0) rfl rfl (by kernel_rfl) (fun _ _ _ _ _ h => h) (.inl ⟨by rfl, fun w' hSw => (by go_simp)⟩) (by assumption) ?_
    try simp only [put9T, List.set]
    refine wpAnyH_done (by kernel_rfl) ?_ _
    have HSS := Lib.hid (eq_SS hO h4 h8 h17 h26 h27)
    have HO := Lib.hid hO
    have HBW := Lib.hid hb
    clear hS' hB hO h4 h8 h17 h26 h27 hb
    go_wp2_with fail
    refine bodyPost_stt rfl rfl rfl (OBX.put (x0 := .slice (some ⟨q4, 0, none⟩) 2 2) (x1 := .slice a8 3 n8) (x2 := .slice (some ⟨q27, 0, none⟩) 2 2) HO.out) rfl ?_
    refine .inr ⟨HE.out, ⟨some ⟨q4, 0, none⟩, 2, a8, n8, some ⟨q27, 0, none⟩, 2⟩, a17, n17, a26, n26, rfl, HSS.out _ _ _, ?_⟩
    exact ((HBW.out.setCell (p := ⟨w.heap.size + 6, 0, none⟩) (by simp) _).setCell (p := ⟨w.heap.size + 6, 1, none⟩) (by simp) _).setCell (p := ⟨w.heap.size + 6, 2, none⟩) (by simp) _
  have N4_8_16_17_25_26 : ∀ (W : World) (q4 : Nat) (a8 : Option Addr) (n8 : Nat) (q16 : Nat) (a17 : Option Addr) (n17 : Nat) (q25 : Nat) (a26 : Option Addr) (n26 : Nat), BX7 W w.heap.size k l A B V R → OBX W (w.heap.size + 6) (.slice none 0 0) (.slice none 0 0) (.slice none 0 0) → Below w.heap.size w W → HPB W q4 #[.string k.M, .string k.O, .string l.M, .string l.O] 26 → World.ownsRow W w.heap.size 77 1 (.slice a8 3 n8) 3 ([V, ⟨#[]⟩, R].map Value.string) → World.ownsRow W w.heap.size 94 4 (.slice a17 2 n17) 2 (tmc [(k.G, 0, false, enc 1), (k.H, 1, false, enc 1)]) → World.ownsRow W w.heap.size 94 4 (.slice a26 2 n26) 2 (tmc [(l.G, 0, false, enc 1), (l.H, 2, false, enc 1)]) → F 4 #[true, true, true, true, true, true, true, true, true, true, true, true, true, true, true, true, true, true, true, true, true, true, true, true, true, true, true, false, false, false, false] ⟨⟨[.agg #[.string k.M, .string k.O, .string k.G, .string k.H], .agg #[.string l.M, .string l.O, .string l.G, .string l.H], .string A, .string B, .string V, .string R, .pointer (some ⟨w.heap.size, 0, none⟩), .pointer (some ⟨w.heap.size + 1, 0, none⟩), .pointer (some ⟨w.heap.size + 2, 0, none⟩), .pointer (some ⟨w.heap.size + 3, 0, none⟩), .pointer (some ⟨w.heap.size + 4, 0, none⟩), .pointer (some ⟨w.heap.size + 5, 0, none⟩), .pointer (some ⟨w.heap.size + 6, 0, none⟩), .int .i64 0, .int .i64 0, .func (.func 13) #[] #[.pointer (some ⟨w.heap.size, 0, none⟩), .pointer (some ⟨w.heap.size + 1, 0, none⟩), .pointer (some ⟨w.heap.size + 2, 0, none⟩), .pointer (some ⟨w.heap.size + 3, 0, none⟩), .pointer (some ⟨w.heap.size + 4, 0, none⟩), .pointer (some ⟨w.heap.size + 5, 0, none⟩)], .func (.func 16) #[] #[.pointer (some ⟨w.heap.size, 0, none⟩)], .func (.func 18) #[] #[.pointer (some ⟨w.heap.size, 0, none⟩), .pointer (some ⟨w.heap.size + 1, 0, none⟩)], .func (.func 20) #[] #[.pointer (some ⟨w.heap.size, 0, none⟩), .pointer (some ⟨w.heap.size + 2, 0, none⟩)], .func (.func 22) #[] #[.pointer (some ⟨w.heap.size + 1, 0, none⟩), .pointer (some ⟨w.heap.size + 3, 0, none⟩)], .func (.func 23) #[] #[.pointer (some ⟨w.heap.size + 4, 0, none⟩), .pointer (some ⟨w.heap.size + 5, 0, none⟩)], .slice (some ⟨w.heap.size + 7, 0, none⟩) 6 6, .int .i64 0, .int .i64 0, .bool false, undef, undef, .pointer (some ⟨w.heap.size, 0, none⟩), .agg #[.string k.M, .string k.O], .pointer (some ⟨w.heap.size + 1, 0, none⟩), .agg #[.string l.M, .string l.O], .slice (some ⟨q4, 0, none⟩) 2 2, .string V, .string R, .agg #[.string V, .string ⟨#[]⟩, .string R], .slice a8 3 n8, .string A, .pointer (some ⟨w.heap.size, 2, none⟩), .string k.G, .agg #[.string k.G, .int .i64 0], .pointer (some ⟨w.heap.size, 3, none⟩), .string k.H, .agg #[.string k.H, .int .i64 1], .slice (some ⟨q16, 0, none⟩) 2 2, .agg #[.int .i64 0, .string A, .slice a17 2 n17], .string B, .pointer (some ⟨w.heap.size + 1, 2, none⟩), .string l.G, .agg #[.string l.G, .int .i64 0], .pointer (some ⟨w.heap.size + 1, 3, none⟩), .string l.H, .agg #[.string l.H, .int .i64 2], .slice (some ⟨q25, 0, none⟩) 2 2, .agg #[.int .i64 1, .string B, .slice a26 2 n26], undef, undef]⟩, []⟩ W := by
    intro W q4 a8 n8 q16 a17 n17 q25 a26 n26 hB hO hb h4 h8 h17 h26
    refine hFi _ _ _ _ ?_
    have hS' := hB
    refine wpAnyH_ready (rs := [27]) (by kernel_rfl) (by simp) ?_
    refine AllReadyH.cons rfl (fun K hK => ?_) AllReadyH.nil
    rw [if_pos (by rfl)]
    go_simp
    have kb := (Below.refl _ W).alloc (Nat.le_refl _) (.cells #[.int .i64 0, .string A, .slice a17 2 n17, .int .i64 1, .string B, .slice a26 2 n26] 68)
    have h27 := HPB.new W #[.int .i64 0, .string A, .slice a17 2 n17, .int .i64 1, .string B, .slice a26 2 n26] 68
    replace hB := hB.below kb (Nat.le_of_lt hO.lt)
    replace hO := hO.below kb hO.lt
    replace h4 := h4.below kb
    replace h8 := own_keepL kb h8
    replace h17 := own_keepL kb h17
    replace h26 := own_keepL kb h26
    replace hb := hb.trans (kb.mono hb.size)
    clear kb
    refine hK.out _ _ hB (fun hS' => ?_)
    clear hK
    try simp only [put9T, List.set]
    generalize W.heap.size = q27 at h27 ⊢
    generalize World.alloc W _ = W2 at hB hO hb h27 h4 h8 h17 h26 ⊢
    refine hFo _ _ _ _ (shr (by kernel_rfl) (by kernel_rfl) (N4_8_16_17_25_26_27 W2 q4 a8 n8 q16 a17 n17 q25 a26 n26 q27 hB hO hb h4 h8 h17 h26 h27))
  have N8_16_17_25_26_27 : ∀ (W : World) (a8 : Option Addr) (n8 : Nat) (q16 : Nat) (a17 : Option Addr) (n17 : Nat) (q25 : Nat) (a26 : Option Addr) (n26 : Nat) (q27 : Nat), BX7 W w.heap.size k l A B V R → OBX W (w.heap.size + 6) (.slice none 0 0) (.slice none 0 0) (.slice none 0 0) → Below w.heap.size w W → World.ownsRow W w.heap.size 77 1 (.slice a8 3 n8) 3 ([V, ⟨#[]⟩, R].map Value.string) → World.ownsRow W w.heap.size 94 4 (.slice a17 2 n17) 2 (tmc [(k.G, 0, false, enc 1), (k.H, 1, false, enc 1)]) → World.ownsRow W w.heap.size 94 4 (.slice a26 2 n26) 2 (tmc [(l.G, 0, false, enc 1), (l.H, 2, false, enc 1)]) → HPB W q27 #[.int .i64 0, .string A, .slice a17 2 n17, .int .i64 1, .string B, .slice a26 2 n26] 68 → F 4 #[true, true, true, true, false, true, true, true, true, true, true, true, true, true, true, true, true, true, true, true, true, true, true, true, true, true, true, true, false, false, false] ⟨⟨[.agg #[.string k.M, .string k.O, .string k.G, .string k.H], .agg #[.string l.M, .string l.O, .string l.G, .string l.H], .string A, .string B, .string V, .string R, .pointer (some ⟨w.heap.size, 0, none⟩), .pointer (some ⟨w.heap.size + 1, 0, none⟩), .pointer (some ⟨w.heap.size + 2, 0, none⟩), .pointer (some ⟨w.heap.size + 3, 0, none⟩), .pointer (some ⟨w.heap.size + 4, 0, none⟩), .pointer (some ⟨w.heap.size + 5, 0, none⟩), .pointer (some ⟨w.heap.size + 6, 0, none⟩), .int .i64 0, .int .i64 0, .func (.func 13) #[] #[.pointer (some ⟨w.heap.size, 0, none⟩), .pointer (some ⟨w.heap.size + 1, 0, none⟩), .pointer (some ⟨w.heap.size + 2, 0, none⟩), .pointer (some ⟨w.heap.size + 3, 0, none⟩), .pointer (some ⟨w.heap.size + 4, 0, none⟩), .pointer (some ⟨w.heap.size + 5, 0, none⟩)], .func (.func 16) #[] #[.pointer (some ⟨w.heap.size, 0, none⟩)], .func (.func 18) #[] #[.pointer (some ⟨w.heap.size, 0, none⟩), .pointer (some ⟨w.heap.size + 1, 0, none⟩)], .func (.func 20) #[] #[.pointer (some ⟨w.heap.size, 0, none⟩), .pointer (some ⟨w.heap.size + 2, 0, none⟩)], .func (.func 22) #[] #[.pointer (some ⟨w.heap.size + 1, 0, none⟩), .pointer (some ⟨w.heap.size + 3, 0, none⟩)], .func (.func 23) #[] #[.pointer (some ⟨w.heap.size + 4, 0, none⟩), .pointer (some ⟨w.heap.size + 5, 0, none⟩)], .slice (some ⟨w.heap.size + 7, 0, none⟩) 6 6, .int .i64 0, .int .i64 0, .bool false, undef, undef, .pointer (some ⟨w.heap.size, 0, none⟩), .agg #[.string k.M, .string k.O], .pointer (some ⟨w.heap.size + 1, 0, none⟩), .agg #[.string l.M, .string l.O], undef, .string V, .string R, .agg #[.string V, .string ⟨#[]⟩, .string R], .slice a8 3 n8, .string A, .pointer (some ⟨w.heap.size, 2, none⟩), .string k.G, .agg #[.string k.G, .int .i64 0], .pointer (some ⟨w.heap.size, 3, none⟩), .string k.H, .agg #[.string k.H, .int .i64 1], .slice (some ⟨q16, 0, none⟩) 2 2, .agg #[.int .i64 0, .string A, .slice a17 2 n17], .string B, .pointer (some ⟨w.heap.size + 1, 2, none⟩), .string l.G, .agg #[.string l.G, .int .i64 0], .pointer (some ⟨w.heap.size + 1, 3, none⟩), .string l.H, .agg #[.string l.H, .int .i64 2], .slice (some ⟨q25, 0, none⟩) 2 2, .agg #[.int .i64 1, .string B, .slice a26 2 n26], .slice (some ⟨q27, 0, none⟩) 2 2, undef]⟩, []⟩ W := by
    intro W a8 n8 q16 a17 n17 q25 a26 n26 q27 hB hO hb h8 h17 h26 h27
    refine hFi _ _ _ _ ?_
    have hS' := hB
    refine wpAnyH_ready (rs := [4]) (by kernel_rfl) (by simp) ?_
    refine AllReadyH.cons rfl (fun K hK => ?_) AllReadyH.nil
    rw [if_pos (by rfl)]
    go_simp
    have kb := (Below.refl _ W).alloc (Nat.le_refl _) (.cells #[.string k.M, .string k.O, .string l.M, .string l.O] 26)
    have h4 := HPB.new W #[.string k.M, .string k.O, .string l.M, .string l.O] 26
    replace hB := hB.below kb (Nat.le_of_lt hO.lt)
    replace hO := hO.below kb hO.lt
    replace h8 := own_keepL kb h8
    replace h17 := own_keepL kb h17
    replace h26 := own_keepL kb h26
    replace h27 := h27.below kb
    replace hb := hb.trans (kb.mono hb.size)
    clear kb
    refine hK.out _ _ hB (fun hS' => ?_)
    clear hK
    try simp only [put9T, List.set]
    generalize W.heap.size = q4 at h4 ⊢
    generalize World.alloc W _ = W2 at hB hO hb h4 h8 h17 h26 h27 ⊢
    refine hFo _ _ _ _ (shr (by kernel_rfl) (by kernel_rfl) (N4_8_16_17_25_26_27 W2 q4 a8 n8 q16 a17 n17 q25 a26 n26 q27 hB hO hb h4 h8 h17 h26 h27))
  have N4_8_16_17_25 : ∀ (W : World) (q4 : Nat) (a8 : Option Addr) (n8 : Nat) (q16 : Nat) (a17 : Option Addr) (n17 : Nat) (q25 : Nat), BX7 W w.heap.size k l A B V R → OBX W (w.heap.size + 6) (.slice none 0 0) (.slice none 0 0) (.slice none 0 0) → Below w.heap.size w W → HPB W q4 #[.string k.M, .string k.O, .string l.M, .string l.O] 26 → World.ownsRow W w.heap.size 77 1 (.slice a8 3 n8) 3 ([V, ⟨#[]⟩, R].map Value.string) → World.ownsRow W w.heap.size 94 4 (.slice a17 2 n17) 2 (tmc [(k.G, 0, false, enc 1), (k.H, 1, false, enc 1)]) → HPB W q25 #[.string l.G, .int .i64 0, .string l.H, .int .i64 2] 71 → F 5 #[true, true, true, true, true, true, true, true, true, true, true, true, true, true, true, true, true, true, true, true, true, true, true, true, true, true, false, false, false, false, false] ⟨⟨[.agg #[.string k.M, .string k.O, .string k.G, .string k.H], .agg #[.string l.M, .string l.O, .string l.G, .string l.H], .string A, .string B, .string V, .string R, .pointer (some ⟨w.heap.size, 0, none⟩), .pointer (some ⟨w.heap.size + 1, 0, none⟩), .pointer (some ⟨w.heap.size + 2, 0, none⟩), .pointer (some ⟨w.heap.size + 3, 0, none⟩), .pointer (some ⟨w.heap.size + 4, 0, none⟩), .pointer (some ⟨w.heap.size + 5, 0, none⟩), .pointer (some ⟨w.heap.size + 6, 0, none⟩), .int .i64 0, .int .i64 0, .func (.func 13) #[] #[.pointer (some ⟨w.heap.size, 0, none⟩), .pointer (some ⟨w.heap.size + 1, 0, none⟩), .pointer (some ⟨w.heap.size + 2, 0, none⟩), .pointer (some ⟨w.heap.size + 3, 0, none⟩), .pointer (some ⟨w.heap.size + 4, 0, none⟩), .pointer (some ⟨w.heap.size + 5, 0, none⟩)], .func (.func 16) #[] #[.pointer (some ⟨w.heap.size, 0, none⟩)], .func (.func 18) #[] #[.pointer (some ⟨w.heap.size, 0, none⟩), .pointer (some ⟨w.heap.size + 1, 0, none⟩)], .func (.func 20) #[] #[.pointer (some ⟨w.heap.size, 0, none⟩), .pointer (some ⟨w.heap.size + 2, 0, none⟩)], .func (.func 22) #[] #[.pointer (some ⟨w.heap.size + 1, 0, none⟩), .pointer (some ⟨w.heap.size + 3, 0, none⟩)], .func (.func 23) #[] #[.pointer (some ⟨w.heap.size + 4, 0, none⟩), .pointer (some ⟨w.heap.size + 5, 0, none⟩)], .slice (some ⟨w.heap.size + 7, 0, none⟩) 6 6, .int .i64 0, .int .i64 0, .bool false, undef, undef, .pointer (some ⟨w.heap.size, 0, none⟩), .agg #[.string k.M, .string k.O], .pointer (some ⟨w.heap.size + 1, 0, none⟩), .agg #[.string l.M, .string l.O], .slice (some ⟨q4, 0, none⟩) 2 2, .string V, .string R, .agg #[.string V, .string ⟨#[]⟩, .string R], .slice a8 3 n8, .string A, .pointer (some ⟨w.heap.size, 2, none⟩), .string k.G, .agg #[.string k.G, .int .i64 0], .pointer (some ⟨w.heap.size, 3, none⟩), .string k.H, .agg #[.string k.H, .int .i64 1], .slice (some ⟨q16, 0, none⟩) 2 2, .agg #[.int .i64 0, .string A, .slice a17 2 n17], .string B, .pointer (some ⟨w.heap.size + 1, 2, none⟩), .string l.G, .agg #[.string l.G, .int .i64 0], .pointer (some ⟨w.heap.size + 1, 3, none⟩), .string l.H, .agg #[.string l.H, .int .i64 2], .slice (some ⟨q25, 0, none⟩) 2 2, undef, undef, undef]⟩, []⟩ W := by
    intro W q4 a8 n8 q16 a17 n17 q25 hB hO hb h4 h8 h17 h25
    refine hFi _ _ _ _ ?_
    have hS' := hB
    refine wpAnyH_ready (rs := [26]) (by kernel_rfl) (by simp) ?_
    refine AllReadyH.cons rfl (fun K hK => ?_) AllReadyH.nil
    rw [if_pos (by rfl)]
    go_simp
    go_at_call 26
    refine (HQ.out 1 B l.G l.H 0 2 q25 2 _ (by rw [Lib.cell_of_heap h25]; rfl) (by rw [Lib.cell_of_heap h25]; rfl) (by rw [Lib.cell_of_heap h25]; rfl) (by rw [Lib.cell_of_heap h25]; rfl)).mono ?_; rintro e W2 ⟨⟨v26, rfl, h26⟩, kb⟩
    obtain ⟨a26, n26, rfl⟩ := own_sl h26
    replace hB := hB.below kb (Nat.le_of_lt hO.lt)
    replace hO := hO.below kb hO.lt
    replace h4 := h4.below kb
    replace h8 := own_keepL kb h8
    replace h17 := own_keepL kb h17
    replace h25 := h25.below kb
    replace h26 := own_weakK h26 hb.size
    replace hb := hb.trans (kb.mono hb.size)
    clear kb
    refine hK.out _ _ hB (fun hS' => ?_)
    clear hK
    try simp only [put9T, List.set]
    refine hFo _ _ _ _ (shr (by kernel_rfl) (by kernel_rfl) (N4_8_16_17_25_26 W2 q4 a8 n8 q16 a17 n17 q25 a26 n26 hB hO hb h4 h8 h17 h26))
  have N8_16_17_25_26 : ∀ (W : World) (a8 : Option Addr) (n8 : Nat) (q16 : Nat) (a17 : Option Addr) (n17 : Nat) (q25 : Nat) (a26 : Option Addr) (n26 : Nat), BX7 W w.heap.size k l A B V R → OBX W (w.heap.size + 6) (.slice none 0 0) (.slice none 0 0) (.slice none 0 0) → Below w.heap.size w W → World.ownsRow W w.heap.size 77 1 (.slice a8 3 n8) 3 ([V, ⟨#[]⟩, R].map Value.string) → World.ownsRow W w.heap.size 94 4 (.slice a17 2 n17) 2 (tmc [(k.G, 0, false, enc 1), (k.H, 1, false, enc 1)]) → World.ownsRow W w.heap.size 94 4 (.slice a26 2 n26) 2 (tmc [(l.G, 0, false, enc 1), (l.H, 2, false, enc 1)]) → F 5 #[true, true, true, true, false, true, true, true, true, true, true, true, true, true, true, true, true, true, true, true, true, true, true, true, true, true, true, false, false, false, false] ⟨⟨[.agg #[.string k.M, .string k.O, .string k.G, .string k.H], .agg #[.string l.M, .string l.O, .string l.G, .string l.H], .string A, .string B, .string V, .string R, .pointer (some ⟨w.heap.size, 0, none⟩), .pointer (some ⟨w.heap.size + 1, 0, none⟩), .pointer (some ⟨w.heap.size + 2, 0, none⟩), .pointer (some ⟨w.heap.size + 3, 0, none⟩), .pointer (some ⟨w.heap.size + 4, 0, none⟩), .pointer (some ⟨w.heap.size + 5, 0, none⟩), .pointer (some ⟨w.heap.size + 6, 0, none⟩), .int .i64 0, .int .i64 0, .func (.func 13) #[] #[.pointer (some ⟨w.heap.size, 0, none⟩), .pointer (some ⟨w.heap.size + 1, 0, none⟩), .pointer (some ⟨w.heap.size + 2, 0, none⟩), .pointer (some ⟨w.heap.size + 3, 0, none⟩), .pointer (some ⟨w.heap.size + 4, 0, none⟩), .pointer (some ⟨w.heap.size + 5, 0, none⟩)], .func (.func 16) #[] #[.pointer (some ⟨w.heap.size, 0, none⟩)], .func (.func 18) #[] #[.pointer (some ⟨w.heap.size, 0, none⟩), .pointer (some ⟨w.heap.size + 1, 0, none⟩)], .func (.func 20) #[] #[.pointer (some ⟨w.heap.size, 0, none⟩), .pointer (some ⟨w.heap.size + 2, 0, none⟩)], .func (.func 22) #[] #[.pointer (some ⟨w.heap.size + 1, 0, none⟩), .pointer (some ⟨w.heap.size + 3, 0, none⟩)], .func (.func 23) #[] #[.pointer (some ⟨w.heap.size + 4, 0, none⟩), .pointer (some ⟨w.heap.size + 5, 0, none⟩)], .slice (some ⟨w.heap.size + 7, 0, none⟩) 6 6, .int .i64 0, .int .i64 0, .bool false, undef, undef, .pointer (some ⟨w.heap.size, 0, none⟩), .agg #[.string k.M, .string k.O], .pointer (some ⟨w.heap.size + 1, 0, none⟩), .agg #[.string l.M, .string l.O], undef, .string V, .string R, .agg #[.string V, .string ⟨#[]⟩, .string R], .slice a8 3 n8, .string A, .pointer (some ⟨w.heap.size, 2, none⟩), .string k.G, .agg #[.string k.G, .int .i64 0], .pointer (some ⟨w.heap.size, 3, none⟩), .string k.H, .agg #[.string k.H, .int .i64 1], .slice (some ⟨q16, 0, none⟩) 2 2, .agg #[.int .i64 0, .string A, .slice a17 2 n17], .string B, .pointer (some ⟨w.heap.size + 1, 2, none⟩), .string l.G, .agg #[.string l.G, .int .i64 0], .pointer (some ⟨w.heap.size + 1, 3, none⟩), .string l.H, .agg #[.string l.H, .int .i64 2], .slice (some ⟨q25, 0, none⟩) 2 2, .agg #[.int .i64 1, .string B, .slice a26 2 n26], undef, undef]⟩, []⟩ W := by
    intro W a8 n8 q16 a17 n17 q25 a26 n26 hB hO hb h8 h17 h26
    refine hFi _ _ _ _ ?_
    have hS' := hB
    refine wpAnyH_ready (rs := [4, 27]) (by kernel_rfl) (by simp) ?_
    refine AllReadyH.cons rfl (fun K hK => ?_) (AllReadyH.cons rfl (fun K hK => ?_) AllReadyH.nil)
    · rw [if_pos (by rfl)]
      go_simp
      have kb := (Below.refl _ W).alloc (Nat.le_refl _) (.cells #[.string k.M, .string k.O, .string l.M, .string l.O] 26)
      have h4 := HPB.new W #[.string k.M, .string k.O, .string l.M, .string l.O] 26
      replace hB := hB.below kb (Nat.le_of_lt hO.lt)
      replace hO := hO.below kb hO.lt
      replace h8 := own_keepL kb h8
      replace h17 := own_keepL kb h17
      replace h26 := own_keepL kb h26
      replace hb := hb.trans (kb.mono hb.size)
      clear kb
      refine hK.out _ _ hB (fun hS' => ?_)
      clear hK
      try simp only [put9T, List.set]
      generalize W.heap.size = q4 at h4 ⊢
      generalize World.alloc W _ = W2 at hB hO hb h4 h8 h17 h26 ⊢
      refine hFo _ _ _ _ (shr (by kernel_rfl) (by kernel_rfl) (N4_8_16_17_25_26 W2 q4 a8 n8 q16 a17 n17 q25 a26 n26 hB hO hb h4 h8 h17 h26))
    · rw [if_pos (by rfl)]
      go_simp
      have kb := (Below.refl _ W).alloc (Nat.le_refl _) (.cells #[.int .i64 0, .string A, .slice a17 2 n17, .int .i64 1, .string B, .slice a26 2 n26] 68)
      have h27 := HPB.new W #[.int .i64 0, .string A, .slice a17 2 n17, .int .i64 1, .string B, .slice a26 2 n26] 68
      replace hB := hB.below kb (Nat.le_of_lt hO.lt)
      replace hO := hO.below kb hO.lt
      replace h8 := own_keepL kb h8
      replace h17 := own_keepL kb h17
      replace h26 := own_keepL kb h26
      replace hb := hb.trans (kb.mono hb.size)
      clear kb
      refine hK.out _ _ hB (fun hS' => ?_)
      clear hK
      try simp only [put9T, List.set]
      generalize W.heap.size = q27 at h27 ⊢
      generalize World.alloc W _ = W2 at hB hO hb h27 h8 h17 h26 ⊢
      refine hFo _ _ _ _ (shr (by kernel_rfl) (by kernel_rfl) (N8_16_17_25_26_27 W2 a8 n8 q16 a17 n17 q25 a26 n26 q27 hB hO hb h8 h17 h26 h27))
  have N4_8_16_17 : ∀ (W : World) (q4 : Nat) (a8 : Option Addr) (n8 : Nat) (q16 : Nat) (a17 : Option Addr) (n17 : Nat), BX7 W w.heap.size k l A B V R → OBX W (w.heap.size + 6) (.slice none 0 0) (.slice none 0 0) (.slice none 0 0) → Below w.heap.size w W → HPB W q4 #[.string k.M, .string k.O, .string l.M, .string l.O] 26 → World.ownsRow W w.heap.size 77 1 (.slice a8 3 n8) 3 ([V, ⟨#[]⟩, R].map Value.string) → World.ownsRow W w.heap.size 94 4 (.slice a17 2 n17) 2 (tmc [(k.G, 0, false, enc 1), (k.H, 1, false, enc 1)]) → F 6 #[true, true, true, true, true, true, true, true, true, true, true, true, true, true, true, true, true, true, true, true, true, true, true, true, true, false, false, false, false, false, false] ⟨⟨[.agg #[.string k.M, .string k.O, .string k.G, .string k.H], .agg #[.string l.M, .string l.O, .string l.G, .string l.H], .string A, .string B, .string V, .string R, .pointer (some ⟨w.heap.size, 0, none⟩), .pointer (some ⟨w.heap.size + 1, 0, none⟩), .pointer (some ⟨w.heap.size + 2, 0, none⟩), .pointer (some ⟨w.heap.size + 3, 0, none⟩), .pointer (some ⟨w.heap.size + 4, 0, none⟩), .pointer (some ⟨w.heap.size + 5, 0, none⟩), .pointer (some ⟨w.heap.size + 6, 0, none⟩), .int .i64 0, .int .i64 0, .func (.func 13) #[] #[.pointer (some ⟨w.heap.size, 0, none⟩), .pointer (some ⟨w.heap.size + 1, 0, none⟩), .pointer (some ⟨w.heap.size + 2, 0, none⟩), .pointer (some ⟨w.heap.size + 3, 0, none⟩), .pointer (some ⟨w.heap.size + 4, 0, none⟩), .pointer (some ⟨w.heap.size + 5, 0, none⟩)], .func (.func 16) #[] #[.pointer (some ⟨w.heap.size, 0, none⟩)], .func (.func 18) #[] #[.pointer (some ⟨w.heap.size, 0, none⟩), .pointer (some ⟨w.heap.size + 1, 0, none⟩)], .func (.func 20) #[] #[.pointer (some ⟨w.heap.size, 0, none⟩), .pointer (some ⟨w.heap.size + 2, 0, none⟩)], .func (.func 22) #[] #[.pointer (some ⟨w.heap.size + 1, 0, none⟩), .pointer (some ⟨w.heap.size + 3, 0, none⟩)], .func (.func 23) #[] #[.pointer (some ⟨w.heap.size + 4, 0, none⟩), .pointer (some ⟨w.heap.size + 5, 0, none⟩)], .slice (some ⟨w.heap.size + 7, 0, none⟩) 6 6, .int .i64 0, .int .i64 0, .bool false, undef, undef, .pointer (some ⟨w.heap.size, 0, none⟩), .agg #[.string k.M, .string k.O], .pointer (some ⟨w.heap.size + 1, 0, none⟩), .agg #[.string l.M, .string l.O], .slice (some ⟨q4, 0, none⟩) 2 2, .string V, .string R, .agg #[.string V, .string ⟨#[]⟩, .string R], .slice a8 3 n8, .string A, .pointer (some ⟨w.heap.size, 2, none⟩), .string k.G, .agg #[.string k.G, .int .i64 0], .pointer (some ⟨w.heap.size, 3, none⟩), .string k.H, .agg #[.string k.H, .int .i64 1], .slice (some ⟨q16, 0, none⟩) 2 2, .agg #[.int .i64 0, .string A, .slice a17 2 n17], .string B, .pointer (some ⟨w.heap.size + 1, 2, none⟩), .string l.G, .agg #[.string l.G, .int .i64 0], .pointer (some ⟨w.heap.size + 1, 3, none⟩), .string l.H, .agg #[.string l.H, .int .i64 2], undef, undef, undef, undef]⟩, []⟩ W := by
    intro W q4 a8 n8 q16 a17 n17 hB hO hb h4 h8 h17
    refine hFi _ _ _ _ ?_
    have hS' := hB
    refine wpAnyH_ready (rs := [25]) (by kernel_rfl) (by simp) ?_
    refine AllReadyH.cons rfl (fun K hK => ?_) AllReadyH.nil
    rw [if_pos (by rfl)]
    go_simp
    have kb := (Below.refl _ W).alloc (Nat.le_refl _) (.cells #[.string l.G, .int .i64 0, .string l.H, .int .i64 2] 71)
    have h25 := HPB.new W #[.string l.G, .int .i64 0, .string l.H, .int .i64 2] 71
    replace hB := hB.below kb (Nat.le_of_lt hO.lt)
    replace hO := hO.below kb hO.lt
    replace h4 := h4.below kb
    replace h8 := own_keepL kb h8
    replace h17 := own_keepL kb h17
    replace hb := hb.trans (kb.mono hb.size)
    clear kb
    refine hK.out _ _ hB (fun hS' => ?_)
    clear hK
    try simp only [put9T, List.set]
    generalize W.heap.size = q25 at h25 ⊢
    generalize World.alloc W _ = W2 at hB hO hb h25 h4 h8 h17 ⊢
    refine hFo _ _ _ _ (shr (by kernel_rfl) (by kernel_rfl) (N4_8_16_17_25 W2 q4 a8 n8 q16 a17 n17 q25 hB hO hb h4 h8 h17 h25))
  have N4_8_16_25 : ∀ (W : World) (q4 : Nat) (a8 : Option Addr) (n8 : Nat) (q16 : Nat) (q25 : Nat), BX7 W w.heap.size k l A B V R → OBX W (w.heap.size + 6) (.slice none 0 0) (.slice none 0 0) (.slice none 0 0) → Below w.heap.size w W → HPB W q4 #[.string k.M, .string k.O, .string l.M, .string l.O] 26 → World.ownsRow W w.heap.size 77 1 (.slice a8 3 n8) 3 ([V, ⟨#[]⟩, R].map Value.string) → HPB W q16 #[.string k.G, .int .i64 0, .string k.H, .int .i64 1] 71 → HPB W q25 #[.string l.G, .int .i64 0, .string l.H, .int .i64 2] 71 → F 6 #[true, true, true, true, true, true, true, true, true, true, true, true, true, true, true, true, true, false, true, true, true, true, true, true, true, true, false, false, false, false, false] ⟨⟨[.agg #[.string k.M, .string k.O, .string k.G, .string k.H], .agg #[.string l.M, .string l.O, .string l.G, .string l.H], .string A, .string B, .string V, .string R, .pointer (some ⟨w.heap.size, 0, none⟩), .pointer (some ⟨w.heap.size + 1, 0, none⟩), .pointer (some ⟨w.heap.size + 2, 0, none⟩), .pointer (some ⟨w.heap.size + 3, 0, none⟩), .pointer (some ⟨w.heap.size + 4, 0, none⟩), .pointer (some ⟨w.heap.size + 5, 0, none⟩), .pointer (some ⟨w.heap.size + 6, 0, none⟩), .int .i64 0, .int .i64 0, .func (.func 13) #[] #[.pointer (some ⟨w.heap.size, 0, none⟩), .pointer (some ⟨w.heap.size + 1, 0, none⟩), .pointer (some ⟨w.heap.size + 2, 0, none⟩), .pointer (some ⟨w.heap.size + 3, 0, none⟩), .pointer (some ⟨w.heap.size + 4, 0, none⟩), .pointer (some ⟨w.heap.size + 5, 0, none⟩)], .func (.func 16) #[] #[.pointer (some ⟨w.heap.size, 0, none⟩)], .func (.func 18) #[] #[.pointer (some ⟨w.heap.size, 0, none⟩), .pointer (some ⟨w.heap.size + 1, 0, none⟩)], .func (.func 20) #[] #[.pointer (some ⟨w.heap.size, 0, none⟩), .pointer (some ⟨w.heap.size + 2, 0, none⟩)], .func (.func 22) #[] #[.pointer (some ⟨w.heap.size + 1, 0, none⟩), .pointer (some ⟨w.heap.size + 3, 0, none⟩)], .func (.func 23) #[] #[.pointer (some ⟨w.heap.size + 4, 0, none⟩), .pointer (some ⟨w.heap.size + 5, 0, none⟩)], .slice (some ⟨w.heap.size + 7, 0, none⟩) 6 6, .int .i64 0, .int .i64 0, .bool false, undef, undef, .pointer (some ⟨w.heap.size, 0, none⟩), .agg #[.string k.M, .string k.O], .pointer (some ⟨w.heap.size + 1, 0, none⟩), .agg #[.string l.M, .string l.O], .slice (some ⟨q4, 0, none⟩) 2 2, .string V, .string R, .agg #[.string V, .string ⟨#[]⟩, .string R], .slice a8 3 n8, .string A, .pointer (some ⟨w.heap.size, 2, none⟩), .string k.G, .agg #[.string k.G, .int .i64 0], .pointer (some ⟨w.heap.size, 3, none⟩), .string k.H, .agg #[.string k.H, .int .i64 1], .slice (some ⟨q16, 0, none⟩) 2 2, undef, .string B, .pointer (some ⟨w.heap.size + 1, 2, none⟩), .string l.G, .agg #[.string l.G, .int .i64 0], .pointer (some ⟨w.heap.size + 1, 3, none⟩), .string l.H, .agg #[.string l.H, .int .i64 2], .slice (some ⟨q25, 0, none⟩) 2 2, undef, undef, undef]⟩, []⟩ W := by
    intro W q4 a8 n8 q16 q25 hB hO hb h4 h8 h16 h25
    refine hFi _ _ _ _ ?_
    have hS' := hB
    refine wpAnyH_ready (rs := [17]) (by kernel_rfl) (by simp) ?_
    refine AllReadyH.cons rfl (fun K hK => ?_) AllReadyH.nil
    rw [if_pos (by rfl)]
    go_simp
    go_at_call 26
    refine (HQ.out 0 A k.G k.H 0 1 q16 2 _ (by rw [Lib.cell_of_heap h16]; rfl) (by rw [Lib.cell_of_heap h16]; rfl) (by rw [Lib.cell_of_heap h16]; rfl) (by rw [Lib.cell_of_heap h16]; rfl)).mono ?_; rintro e W2 ⟨⟨v17, rfl, h17⟩, kb⟩
    obtain ⟨a17, n17, rfl⟩ := own_sl h17
    replace hB := hB.below kb (Nat.le_of_lt hO.lt)
    replace hO := hO.below kb hO.lt
    replace h4 := h4.below kb
    replace h8 := own_keepL kb h8
    replace h16 := h16.below kb
    replace h25 := h25.below kb
    replace h17 := own_weakK h17 hb.size
    replace hb := hb.trans (kb.mono hb.size)
    clear kb
    refine hK.out _ _ hB (fun hS' => ?_)
    clear hK
    try simp only [put9T, List.set]
    refine hFo _ _ _ _ (shr (by kernel_rfl) (by kernel_rfl) (N4_8_16_17_25 W2 q4 a8 n8 q16 a17 n17 q25 hB hO hb h4 h8 h17 h25))
  have N8_16_17_25 : ∀ (W : World) (a8 : Option Addr) (n8 : Nat) (q16 : Nat) (a17 : Option Addr) (n17 : Nat) (q25 : Nat), BX7 W w.heap.size k l A B V R → OBX W (w.heap.size + 6) (.slice none 0 0) (.slice none 0 0) (.slice none 0 0) → Below w.heap.size w W → World.ownsRow W w.heap.size 77 1 (.slice a8 3 n8) 3 ([V, ⟨#[]⟩, R].map Value.string) → World.ownsRow W w.heap.size 94 4 (.slice a17 2 n17) 2 (tmc [(k.G, 0, false, enc 1), (k.H, 1, false, enc 1)]) → HPB W q25 #[.string l.G, .int .i64 0, .string l.H, .int .i64 2] 71 → F 6 #[true, true, true, true, false, true, true, true, true, true, true, true, true, true, true, true, true, true, true, true, true, true, true, true, true, true, false, false, false, false, false] ⟨⟨[.agg #[.string k.M, .string k.O, .string k.G, .string k.H], .agg #[.string l.M, .string l.O, .string l.G, .string l.H], .string A, .string B, .string V, .string R, .pointer (some ⟨w.heap.size, 0, none⟩), .pointer (some ⟨w.heap.size + 1, 0, none⟩), .pointer (some ⟨w.heap.size + 2, 0, none⟩), .pointer (some ⟨w.heap.size + 3, 0, none⟩), .pointer (some ⟨w.heap.size + 4, 0, none⟩), .pointer (some ⟨w.heap.size + 5, 0, none⟩), .pointer (some ⟨w.heap.size + 6, 0, none⟩), .int .i64 0, .int .i64 0, .func (.func 13) #[] #[.pointer (some ⟨w.heap.size, 0, none⟩), .pointer (some ⟨w.heap.size + 1, 0, none⟩), .pointer (some ⟨w.heap.size + 2, 0, none⟩), .pointer (some ⟨w.heap.size + 3, 0, none⟩), .pointer (some ⟨w.heap.size + 4, 0, none⟩), .pointer (some ⟨w.heap.size + 5, 0, none⟩)], .func (.func 16) #[] #[.pointer (some ⟨w.heap.size, 0, none⟩)], .func (.func 18) #[] #[.pointer (some ⟨w.heap.size, 0, none⟩), .pointer (some ⟨w.heap.size + 1, 0, none⟩)], .func (.func 20) #[] #[.pointer (some ⟨w.heap.size, 0, none⟩), .pointer (some ⟨w.heap.size + 2, 0, none⟩)], .func (.func 22) #[] #[.pointer (some ⟨w.heap.size + 1, 0, none⟩), .pointer (some ⟨w.heap.size + 3, 0, none⟩)], .func (.func 23) #[] #[.pointer (some ⟨w.heap.size + 4, 0, none⟩), .pointer (some ⟨w.heap.size + 5, 0, none⟩)], .slice (some ⟨w.heap.size + 7, 0, none⟩) 6 6, .int .i64 0, .int .i64 0, .bool false, undef, undef, .pointer (some ⟨w.heap.size, 0, none⟩), .agg #[.string k.M, .string k.O], .pointer (some ⟨w.heap.size + 1, 0, none⟩), .agg #[.string l.M, .string l.O], undef, .string V, .string R, .agg #[.string V, .string ⟨#[]⟩, .string R], .slice a8 3 n8, .string A, .pointer (some ⟨w.heap.size, 2, none⟩), .string k.G, .agg #[.string k.G, .int .i64 0], .pointer (some ⟨w.heap.size, 3, none⟩), .string k.H, .agg #[.string k.H, .int .i64 1], .slice (some ⟨q16, 0, none⟩) 2 2, .agg #[.int .i64 0, .string A, .slice a17 2 n17], .string B, .pointer (some ⟨w.heap.size + 1, 2, none⟩), .string l.G, .agg #[.string l.G, .int .i64 0], .pointer (some ⟨w.heap.size + 1, 3, none⟩), .string l.H, .agg #[.string l.H, .int .i64 2], .slice (some ⟨q25, 0, none⟩) 2 2, undef, undef, undef]⟩, []⟩ W := by
    intro W a8 n8 q16 a17 n17 q25 hB hO hb h8 h17 h25
    refine hFi _ _ _ _ ?_
    have hS' := hB
    refine wpAnyH_ready (rs := [4, 26]) (by kernel_rfl) (by simp) ?_
    refine AllReadyH.cons rfl (fun K hK => ?_) (AllReadyH.cons rfl (fun K hK => ?_) AllReadyH.nil)
    · rw [if_pos (by rfl)]
      go_simp
      have kb := (Below.refl _ W).alloc (Nat.le_refl _) (.cells #[.string k.M, .string k.O, .string l.M, .string l.O] 26)
      have h4 := HPB.new W #[.string k.M, .string k.O, .string l.M, .string l.O] 26
      replace hB := hB.below kb (Nat.le_of_lt hO.lt)
      replace hO := hO.below kb hO.lt
      replace h8 := own_keepL kb h8
      replace h17 := own_keepL kb h17
      replace h25 := h25.below kb
      replace hb := hb.trans (kb.mono hb.size)
      clear kb
      refine hK.out _ _ hB (fun hS' => ?_)
      clear hK
      try simp only [put9T, List.set]
      generalize W.heap.size = q4 at h4 ⊢
      generalize World.alloc W _ = W2 at hB hO hb h4 h8 h17 h25 ⊢
      refine hFo _ _ _ _ (shr (by kernel_rfl) (by kernel_rfl) (N4_8_16_17_25 W2 q4 a8 n8 q16 a17 n17 q25 hB hO hb h4 h8 h17 h25))
    · rw [if_pos (by rfl)]
      go_simp
      go_at_call 26
      refine (HQ.out 1 B l.G l.H 0 2 q25 2 _ (by rw [Lib.cell_of_heap h25]; rfl) (by rw [Lib.cell_of_heap h25]; rfl) (by rw [Lib.cell_of_heap h25]; rfl) (by rw [Lib.cell_of_heap h25]; rfl)).mono ?_; rintro e W2 ⟨⟨v26, rfl, h26⟩, kb⟩
      obtain ⟨a26, n26, rfl⟩ := own_sl h26
      replace hB := hB.below kb (Nat.le_of_lt hO.lt)
      replace hO := hO.below kb hO.lt
      replace h8 := own_keepL kb h8
      replace h17 := own_keepL kb h17
      replace h25 := h25.below kb
      replace h26 := own_weakK h26 hb.size
      replace hb := hb.trans (kb.mono hb.size)
      clear kb
      refine hK.out _ _ hB (fun hS' => ?_)
      clear hK
      try simp only [put9T, List.set]
      refine hFo _ _ _ _ (shr (by kernel_rfl) (by kernel_rfl) (N8_16_17_25_26 W2 a8 n8 q16 a17 n17 q25 a26 n26 hB hO hb h8 h17 h26))
  have N4_8_16 : ∀ (W : World) (q4 : Nat) (a8 : Option Addr) (n8 : Nat) (q16 : Nat), BX7 W w.heap.size k l A B V R → OBX W (w.heap.size + 6) (.slice none 0 0) (.slice none 0 0) (.slice none 0 0) → Below w.heap.size w W → HPB W q4 #[.string k.M, .string k.O, .string l.M, .string l.O] 26 → World.ownsRow W w.heap.size 77 1 (.slice a8 3 n8) 3 ([V, ⟨#[]⟩, R].map Value.string) → HPB W q16 #[.string k.G, .int .i64 0, .string k.H, .int .i64 1] 71 → F 7 #[true, true, true, true, true, true, true, true, true, true, true, true, true, true, true, true, true, false, true, true, true, true, true, true, true, false, false, false, false, false, false] ⟨⟨[.agg #[.string k.M, .string k.O, .string k.G, .string k.H], .agg #[.string l.M, .string l.O, .string l.G, .string l.H], .string A, .string B, .string V, .string R, .pointer (some ⟨w.heap.size, 0, none⟩), .pointer (some ⟨w.heap.size + 1, 0, none⟩), .pointer (some ⟨w.heap.size + 2, 0, none⟩), .pointer (some ⟨w.heap.size + 3, 0, none⟩), .pointer (some ⟨w.heap.size + 4, 0, none⟩), .pointer (some ⟨w.heap.size + 5, 0, none⟩), .pointer (some ⟨w.heap.size + 6, 0, none⟩), .int .i64 0, .int .i64 0, .func (.func 13) #[] #[.pointer (some ⟨w.heap.size, 0, none⟩), .pointer (some ⟨w.heap.size + 1, 0, none⟩), .pointer (some ⟨w.heap.size + 2, 0, none⟩), .pointer (some ⟨w.heap.size + 3, 0, none⟩), .pointer (some ⟨w.heap.size + 4, 0, none⟩), .pointer (some ⟨w.heap.size + 5, 0, none⟩)], .func (.func 16) #[] #[.pointer (some ⟨w.heap.size, 0, none⟩)], .func (.func 18) #[] #[.pointer (some ⟨w.heap.size, 0, none⟩), .pointer (some ⟨w.heap.size + 1, 0, none⟩)], .func (.func 20) #[] #[.pointer (some ⟨w.heap.size, 0, none⟩), .pointer (some ⟨w.heap.size + 2, 0, none⟩)], .func (.func 22) #[] #[.pointer (some ⟨w.heap.size + 1, 0, none⟩), .pointer (some ⟨w.heap.size + 3, 0, none⟩)], .func (.func 23) #[] #[.pointer (some ⟨w.heap.size + 4, 0, none⟩), .pointer (some ⟨w.heap.size + 5, 0, none⟩)], .slice (some ⟨w.heap.size + 7, 0, none⟩) 6 6, .int .i64 0, .int .i64 0, .bool false, undef, undef, .pointer (some ⟨w.heap.size, 0, none⟩), .agg #[.string k.M, .string k.O], .pointer (some ⟨w.heap.size + 1, 0, none⟩), .agg #[.string l.M, .string l.O], .slice (some ⟨q4, 0, none⟩) 2 2, .string V, .string R, .agg #[.string V, .string ⟨#[]⟩, .string R], .slice a8 3 n8, .string A, .pointer (some ⟨w.heap.size, 2, none⟩), .string k.G, .agg #[.string k.G, .int .i64 0], .pointer (some ⟨w.heap.size, 3, none⟩), .string k.H, .agg #[.string k.H, .int .i64 1], .slice (some ⟨q16, 0, none⟩) 2 2, undef, .string B, .pointer (some ⟨w.heap.size + 1, 2, none⟩), .string l.G, .agg #[.string l.G, .int .i64 0], .pointer (some ⟨w.heap.size + 1, 3, none⟩), .string l.H, .agg #[.string l.H, .int .i64 2], undef, undef, undef, undef]⟩, []⟩ W := by
    intro W q4 a8 n8 q16 hB hO hb h4 h8 h16
    refine hFi _ _ _ _ ?_
    have hS' := hB
    refine wpAnyH_ready (rs := [17, 25]) (by kernel_rfl) (by simp) ?_
    refine AllReadyH.cons rfl (fun K hK => ?_) (AllReadyH.cons rfl (fun K hK => ?_) AllReadyH.nil)
    · rw [if_pos (by rfl)]
      go_simp
      go_at_call 26
      refine (HQ.out 0 A k.G k.H 0 1 q16 2 _ (by rw [Lib.cell_of_heap h16]; rfl) (by rw [Lib.cell_of_heap h16]; rfl) (by rw [Lib.cell_of_heap h16]; rfl) (by rw [Lib.cell_of_heap h16]; rfl)).mono ?_; rintro e W2 ⟨⟨v17, rfl, h17⟩, kb⟩
      obtain ⟨a17, n17, rfl⟩ := own_sl h17
      replace hB := hB.below kb (Nat.le_of_lt hO.lt)
      replace hO := hO.below kb hO.lt
      replace h4 := h4.below kb
      replace h8 := own_keepL kb h8
      replace h16 := h16.below kb
      replace h17 := own_weakK h17 hb.size
      replace hb := hb.trans (kb.mono hb.size)
      clear kb
      refine hK.out _ _ hB (fun hS' => ?_)
      clear hK
      try simp only [put9T, List.set]
      refine hFo _ _ _ _ (shr (by kernel_rfl) (by kernel_rfl) (N4_8_16_17 W2 q4 a8 n8 q16 a17 n17 hB hO hb h4 h8 h17))
    · rw [if_pos (by rfl)]
      go_simp
      have kb := (Below.refl _ W).alloc (Nat.le_refl _) (.cells #[.string l.G, .int .i64 0, .string l.H, .int .i64 2] 71)
      have h25 := HPB.new W #[.string l.G, .int .i64 0, .string l.H, .int .i64 2] 71
      replace hB := hB.below kb (Nat.le_of_lt hO.lt)
      replace hO := hO.below kb hO.lt
      replace h4 := h4.below kb
      replace h8 := own_keepL kb h8
      replace h16 := h16.below kb
      replace hb := hb.trans (kb.mono hb.size)
      clear kb
      refine hK.out _ _ hB (fun hS' => ?_)
      clear hK
      try simp only [put9T, List.set]
      generalize W.heap.size = q25 at h25 ⊢
      generalize World.alloc W _ = W2 at hB hO hb h25 h4 h8 h16 ⊢
      refine hFo _ _ _ _ (shr (by kernel_rfl) (by kernel_rfl) (N4_8_16_25 W2 q4 a8 n8 q16 q25 hB hO hb h4 h8 h16 h25))
  have N4_8_25 : ∀ (W : World) (q4 : Nat) (a8 : Option Addr) (n8 : Nat) (q25 : Nat), BX7 W w.heap.size k l A B V R → OBX W (w.heap.size + 6) (.slice none 0 0) (.slice none 0 0) (.slice none 0 0) → Below w.heap.size w W → HPB W q4 #[.string k.M, .string k.O, .string l.M, .string l.O] 26 → World.ownsRow W w.heap.size 77 1 (.slice a8 3 n8) 3 ([V, ⟨#[]⟩, R].map Value.string) → HPB W q25 #[.string l.G, .int .i64 0, .string l.H, .int .i64 2] 71 → F 7 #[true, true, true, true, true, true, true, true, true, true, true, true, true, true, true, true, false, false, true, true, true, true, true, true, true, true, false, false, false, false, false] ⟨⟨[.agg #[.string k.M, .string k.O, .string k.G, .string k.H], .agg #[.string l.M, .string l.O, .string l.G, .string l.H], .string A, .string B, .string V, .string R, .pointer (some ⟨w.heap.size, 0, none⟩), .pointer (some ⟨w.heap.size + 1, 0, none⟩), .pointer (some ⟨w.heap.size + 2, 0, none⟩), .pointer (some ⟨w.heap.size + 3, 0, none⟩), .pointer (some ⟨w.heap.size + 4, 0, none⟩), .pointer (some ⟨w.heap.size + 5, 0, none⟩), .pointer (some ⟨w.heap.size + 6, 0, none⟩), .int .i64 0, .int .i64 0, .func (.func 13) #[] #[.pointer (some ⟨w.heap.size, 0, none⟩), .pointer (some ⟨w.heap.size + 1, 0, none⟩), .pointer (some ⟨w.heap.size + 2, 0, none⟩), .pointer (some ⟨w.heap.size + 3, 0, none⟩), .pointer (some ⟨w.heap.size + 4, 0, none⟩), .pointer (some ⟨w.heap.size + 5, 0, none⟩)], .func (.func 16) #[] #[.pointer (some ⟨w.heap.size, 0, none⟩)], .func (.func 18) #[] #[.pointer (some ⟨w.heap.size, 0, none⟩), .pointer (some ⟨w.heap.size + 1, 0, none⟩)], .func (.func 20) #[] #[.pointer (some ⟨w.heap.size, 0, none⟩), .pointer (some ⟨w.heap.size + 2, 0, none⟩)], .func (.func 22) #[] #[.pointer (some ⟨w.heap.size + 1, 0, none⟩), .pointer (some ⟨w.heap.size + 3, 0, none⟩)], .func (.func 23) #[] #[.pointer (some ⟨w.heap.size + 4, 0, none⟩), .pointer (some ⟨w.heap.size + 5, 0, none⟩)], .slice (some ⟨w.heap.size + 7, 0, none⟩) 6 6, .int .i64 0, .int .i64 0, .bool false, undef, undef, .pointer (some ⟨w.heap.size, 0, none⟩), .agg #[.string k.M, .string k.O], .pointer (some ⟨w.heap.size + 1, 0, none⟩), .agg #[.string l.M, .string l.O], .slice (some ⟨q4, 0, none⟩) 2 2, .string V, .string R, .agg #[.string V, .string ⟨#[]⟩, .string R], .slice a8 3 n8, .string A, .pointer (some ⟨w.heap.size, 2, none⟩), .string k.G, .agg #[.string k.G, .int .i64 0], .pointer (some ⟨w.heap.size, 3, none⟩), .string k.H, .agg #[.string k.H, .int .i64 1], undef, undef, .string B, .pointer (some ⟨w.heap.size + 1, 2, none⟩), .string l.G, .agg #[.string l.G, .int .i64 0], .pointer (some ⟨w.heap.size + 1, 3, none⟩), .string l.H, .agg #[.string l.H, .int .i64 2], .slice (some ⟨q25, 0, none⟩) 2 2, undef, undef, undef]⟩, []⟩ W := by
    intro W q4 a8 n8 q25 hB hO hb h4 h8 h25
    refine hFi _ _ _ _ ?_
    have hS' := hB
    refine wpAnyH_ready (rs := [16]) (by kernel_rfl) (by simp) ?_
    refine AllReadyH.cons rfl (fun K hK => ?_) AllReadyH.nil
    rw [if_pos (by rfl)]
    go_simp
    have kb := (Below.refl _ W).alloc (Nat.le_refl _) (.cells #[.string k.G, .int .i64 0, .string k.H, .int .i64 1] 71)
    have h16 := HPB.new W #[.string k.G, .int .i64 0, .string k.H, .int .i64 1] 71
    replace hB := hB.below kb (Nat.le_of_lt hO.lt)
    replace hO := hO.below kb hO.lt
    replace h4 := h4.below kb
    replace h8 := own_keepL kb h8
    replace h25 := h25.below kb
    replace hb := hb.trans (kb.mono hb.size)
    clear kb
    refine hK.out _ _ hB (fun hS' => ?_)
    clear hK
    try simp only [put9T, List.set]
    generalize W.heap.size = q16 at h16 ⊢
    generalize World.alloc W _ = W2 at hB hO hb h16 h4 h8 h25 ⊢
    refine hFo _ _ _ _ (shr (by kernel_rfl) (by kernel_rfl) (N4_8_16_25 W2 q4 a8 n8 q16 q25 hB hO hb h4 h8 h16 h25))
  have N4_16_25 : ∀ (W : World) (q4 : Nat) (q16 : Nat) (q25 : Nat), BX7 W w.heap.size k l A B V R → OBX W (w.heap.size + 6) (.slice none 0 0) (.slice none 0 0) (.slice none 0 0) → Below w.heap.size w W → HPB W q4 #[.string k.M, .string k.O, .string l.M, .string l.O] 26 → HPB W q16 #[.string k.G, .int .i64 0, .string k.H, .int .i64 1] 71 → HPB W q25 #[.string l.G, .int .i64 0, .string l.H, .int .i64 2] 71 → F 7 #[true, true, true, true, true, true, true, true, false, true, true, true, true, true, true, true, true, false, true, true, true, true, true, true, true, true, false, false, false, false, false] ⟨⟨[.agg #[.string k.M, .string k.O, .string k.G, .string k.H], .agg #[.string l.M, .string l.O, .string l.G, .string l.H], .string A, .string B, .string V, .string R, .pointer (some ⟨w.heap.size, 0, none⟩), .pointer (some ⟨w.heap.size + 1, 0, none⟩), .pointer (some ⟨w.heap.size + 2, 0, none⟩), .pointer (some ⟨w.heap.size + 3, 0, none⟩), .pointer (some ⟨w.heap.size + 4, 0, none⟩), .pointer (some ⟨w.heap.size + 5, 0, none⟩), .pointer (some ⟨w.heap.size + 6, 0, none⟩), .int .i64 0, .int .i64 0, .func (.func 13) #[] #[.pointer (some ⟨w.heap.size, 0, none⟩), .pointer (some ⟨w.heap.size + 1, 0, none⟩), .pointer (some ⟨w.heap.size + 2, 0, none⟩), .pointer (some ⟨w.heap.size + 3, 0, none⟩), .pointer (some ⟨w.heap.size + 4, 0, none⟩), .pointer (some ⟨w.heap.size + 5, 0, none⟩)], .func (.func 16) #[] #[.pointer (some ⟨w.heap.size, 0, none⟩)], .func (.func 18) #[] #[.pointer (some ⟨w.heap.size, 0, none⟩), .pointer (some ⟨w.heap.size + 1, 0, none⟩)], .func (.func 20) #[] #[.pointer (some ⟨w.heap.size, 0, none⟩), .pointer (some ⟨w.heap.size + 2, 0, none⟩)], .func (.func 22) #[] #[.pointer (some ⟨w.heap.size + 1, 0, none⟩), .pointer (some ⟨w.heap.size + 3, 0, none⟩)], .func (.func 23) #[] #[.pointer (some ⟨w.heap.size + 4, 0, none⟩), .pointer (some ⟨w.heap.size + 5, 0, none⟩)], .slice (some ⟨w.heap.size + 7, 0, none⟩) 6 6, .int .i64 0, .int .i64 0, .bool false, undef, undef, .pointer (some ⟨w.heap.size, 0, none⟩), .agg #[.string k.M, .string k.O], .pointer (some ⟨w.heap.size + 1, 0, none⟩), .agg #[.string l.M, .string l.O], .slice (some ⟨q4, 0, none⟩) 2 2, .string V, .string R, .agg #[.string V, .string ⟨#[]⟩, .string R], undef, .string A, .pointer (some ⟨w.heap.size, 2, none⟩), .string k.G, .agg #[.string k.G, .int .i64 0], .pointer (some ⟨w.heap.size, 3, none⟩), .string k.H, .agg #[.string k.H, .int .i64 1], .slice (some ⟨q16, 0, none⟩) 2 2, undef, .string B, .pointer (some ⟨w.heap.size + 1, 2, none⟩), .string l.G, .agg #[.string l.G, .int .i64 0], .pointer (some ⟨w.heap.size + 1, 3, none⟩), .string l.H, .agg #[.string l.H, .int .i64 2], .slice (some ⟨q25, 0, none⟩) 2 2, undef, undef, undef]⟩, []⟩ W := by
    intro W q4 q16 q25 hB hO hb h4 h16 h25
    refine hFi _ _ _ _ ?_
    have hS' := hB
    refine wpAnyH_ready (rs := [8]) (by kernel_rfl) (by simp) ?_
    refine AllReadyH.cons rfl (fun K hK => ?_) AllReadyH.nil
    rw [if_pos (by rfl)]
    go_simp
    go_at_call 25
    refine (HV.out _).mono ?_; rintro e W2 ⟨⟨v8, rfl, h8⟩, kb⟩
    obtain ⟨a8, n8, rfl⟩ := own_sl h8
    replace hB := hB.below kb (Nat.le_of_lt hO.lt)
    replace hO := hO.below kb hO.lt
    replace h4 := h4.below kb
    replace h16 := h16.below kb
    replace h25 := h25.below kb
    replace h8 := own_weakK h8 hb.size
    replace hb := hb.trans (kb.mono hb.size)
    clear kb
    refine hK.out _ _ hB (fun hS' => ?_)
    clear hK
    try simp only [put9T, List.set]
    refine hFo _ _ _ _ (shr (by kernel_rfl) (by kernel_rfl) (N4_8_16_25 W2 q4 a8 n8 q16 q25 hB hO hb h4 h8 h16 h25))
  have N8_16_17 : ∀ (W : World) (a8 : Option Addr) (n8 : Nat) (q16 : Nat) (a17 : Option Addr) (n17 : Nat), BX7 W w.heap.size k l A B V R → OBX W (w.heap.size + 6) (.slice none 0 0) (.slice none 0 0) (.slice none 0 0) → Below w.heap.size w W → World.ownsRow W w.heap.size 77 1 (.slice a8 3 n8) 3 ([V, ⟨#[]⟩, R].map Value.string) → World.ownsRow W w.heap.size 94 4 (.slice a17 2 n17) 2 (tmc [(k.G, 0, false, enc 1), (k.H, 1, false, enc 1)]) → F 7 #[true, true, true, true, false, true, true, true, true, true, true, true, true, true, true, true, true, true, true, true, true, true, true, true, true, false, false, false, false, false, false] ⟨⟨[.agg #[.string k.M, .string k.O, .string k.G, .string k.H], .agg #[.string l.M, .string l.O, .string l.G, .string l.H], .string A, .string B, .string V, .string R, .pointer (some ⟨w.heap.size, 0, none⟩), .pointer (some ⟨w.heap.size + 1, 0, none⟩), .pointer (some ⟨w.heap.size + 2, 0, none⟩), .pointer (some ⟨w.heap.size + 3, 0, none⟩), .pointer (some ⟨w.heap.size + 4, 0, none⟩), .pointer (some ⟨w.heap.size + 5, 0, none⟩), .pointer (some ⟨w.heap.size + 6, 0, none⟩), .int .i64 0, .int .i64 0, .func (.func 13) #[] #[.pointer (some ⟨w.heap.size, 0, none⟩), .pointer (some ⟨w.heap.size + 1, 0, none⟩), .pointer (some ⟨w.heap.size + 2, 0, none⟩), .pointer (some ⟨w.heap.size + 3, 0, none⟩), .pointer (some ⟨w.heap.size + 4, 0, none⟩), .pointer (some ⟨w.heap.size + 5, 0, none⟩)], .func (.func 16) #[] #[.pointer (some ⟨w.heap.size, 0, none⟩)], .func (.func 18) #[] #[.pointer (some ⟨w.heap.size, 0, none⟩), .pointer (some ⟨w.heap.size + 1, 0, none⟩)], .func (.func 20) #[] #[.pointer (some ⟨w.heap.size, 0, none⟩), .pointer (some ⟨w.heap.size + 2, 0, none⟩)], .func (.func 22) #[] #[.pointer (some ⟨w.heap.size + 1, 0, none⟩), .pointer (some ⟨w.heap.size + 3, 0, none⟩)], .func (.func 23) #[] #[.pointer (some ⟨w.heap.size + 4, 0, none⟩), .pointer (some ⟨w.heap.size + 5, 0, none⟩)], .slice (some ⟨w.heap.size + 7, 0, none⟩) 6 6, .int .i64 0, .int .i64 0, .bool false, undef, undef, .pointer (some ⟨w.heap.size, 0, none⟩), .agg #[.string k.M, .string k.O], .pointer (some ⟨w.heap.size + 1, 0, none⟩), .agg #[.string l.M, .string l.O], undef, .string V, .string R, .agg #[.string V, .string ⟨#[]⟩, .string R], .slice a8 3 n8, .string A, .pointer (some ⟨w.heap.size, 2, none⟩), .string k.G, .agg #[.string k.G, .int .i64 0], .pointer (some ⟨w.heap.size, 3, none⟩), .string k.H, .agg #[.string k.H, .int .i64 1], .slice (some ⟨q16, 0, none⟩) 2 2, .agg #[.int .i64 0, .string A, .slice a17 2 n17], .string B, .pointer (some ⟨w.heap.size + 1, 2, none⟩), .string l.G, .agg #[.string l.G, .int .i64 0], .pointer (some ⟨w.heap.size + 1, 3, none⟩), .string l.H, .agg #[.string l.H, .int .i64 2], undef, undef, undef, undef]⟩, []⟩ W := by
    intro W a8 n8 q16 a17 n17 hB hO hb h8 h17
    refine hFi _ _ _ _ ?_
    have hS' := hB
    refine wpAnyH_ready (rs := [4, 25]) (by kernel_rfl) (by simp) ?_
    refine AllReadyH.cons rfl (fun K hK => ?_) (AllReadyH.cons rfl (fun K hK => ?_) AllReadyH.nil)
    · rw [if_pos (by rfl)]
      go_simp
      have kb := (Below.refl _ W).alloc (Nat.le_refl _) (.cells #[.string k.M, .string k.O, .string l.M, .string l.O] 26)
      have h4 := HPB.new W #[.string k.M, .string k.O, .string l.M, .string l.O] 26
      replace hB := hB.below kb (Nat.le_of_lt hO.lt)
      replace hO := hO.below kb hO.lt
      replace h8 := own_keepL kb h8
      replace h17 := own_keepL kb h17
      replace hb := hb.trans (kb.mono hb.size)
      clear kb
      refine hK.out _ _ hB (fun hS' => ?_)
      clear hK
      try simp only [put9T, List.set]
      generalize W.heap.size = q4 at h4 ⊢
      generalize World.alloc W _ = W2 at hB hO hb h4 h8 h17 ⊢
      refine hFo _ _ _ _ (shr (by kernel_rfl) (by kernel_rfl) (N4_8_16_17 W2 q4 a8 n8 q16 a17 n17 hB hO hb h4 h8 h17))
    · rw [if_pos (by rfl)]
      go_simp
      have kb := (Below.refl _ W).alloc (Nat.le_refl _) (.cells #[.string l.G, .int .i64 0, .string l.H, .int .i64 2] 71)
      have h25 := HPB.new W #[.string l.G, .int .i64 0, .string l.H, .int .i64 2] 71
      replace hB := hB.below kb (Nat.le_of_lt hO.lt)
      replace hO := hO.below kb hO.lt
      replace h8 := own_keepL kb h8
      replace h17 := own_keepL kb h17
      replace hb := hb.trans (kb.mono hb.size)
      clear kb
      refine hK.out _ _ hB (fun hS' => ?_)
      clear hK
      try simp only [put9T, List.set]
      generalize W.heap.size = q25 at h25 ⊢
      generalize World.alloc W _ = W2 at hB hO hb h25 h8 h17 ⊢
      refine hFo _ _ _ _ (shr (by kernel_rfl) (by kernel_rfl) (N8_16_17_25 W2 a8 n8 q16 a17 n17 q25 hB hO hb h8 h17 h25))
  have N8_16_25 : ∀ (W : World) (a8 : Option Addr) (n8 : Nat) (q16 : Nat) (q25 : Nat), BX7 W w.heap.size k l A B V R → OBX W (w.heap.size + 6) (.slice none 0 0) (.slice none 0 0) (.slice none 0 0) → Below w.heap.size w W → World.ownsRow W w.heap.size 77 1 (.slice a8 3 n8) 3 ([V, ⟨#[]⟩, R].map Value.string) → HPB W q16 #[.string k.G, .int .i64 0, .string k.H, .int .i64 1] 71 → HPB W q25 #[.string l.G, .int .i64 0, .string l.H, .int .i64 2] 71 → F 7 #[true, true, true, true, false, true, true, true, true, true, true, true, true, true, true, true, true, false, true, true, true, true, true, true, true, true, false, false, false, false, false] ⟨⟨[.agg #[.string k.M, .string k.O, .string k.G, .string k.H], .agg #[.string l.M, .string l.O, .string l.G, .string l.H], .string A, .string B, .string V, .string R, .pointer (some ⟨w.heap.size, 0, none⟩), .pointer (some ⟨w.heap.size + 1, 0, none⟩), .pointer (some ⟨w.heap.size + 2, 0, none⟩), .pointer (some ⟨w.heap.size + 3, 0, none⟩), .pointer (some ⟨w.heap.size + 4, 0, none⟩), .pointer (some ⟨w.heap.size + 5, 0, none⟩), .pointer (some ⟨w.heap.size + 6, 0, none⟩), .int .i64 0, .int .i64 0, .func (.func 13) #[] #[.pointer (some ⟨w.heap.size, 0, none⟩), .pointer (some ⟨w.heap.size + 1, 0, none⟩), .pointer (some ⟨w.heap.size + 2, 0, none⟩), .pointer (some ⟨w.heap.size + 3, 0, none⟩), .pointer (some ⟨w.heap.size + 4, 0, none⟩), .pointer (some ⟨w.heap.size + 5, 0, none⟩)], .func (.func 16) #[] #[.pointer (some ⟨w.heap.size, 0, none⟩)], .func (.func 18) #[] #[.pointer (some ⟨w.heap.size, 0, none⟩), .pointer (some ⟨w.heap.size + 1, 0, none⟩)], .func (.func 20) #[] #[.pointer (some ⟨w.heap.size, 0, none⟩), .pointer (some ⟨w.heap.size + 2, 0, none⟩)], .func (.func 22) #[] #[.pointer (some ⟨w.heap.size + 1, 0, none⟩), .pointer (some ⟨w.heap.size + 3, 0, none⟩)], .func (.func 23) #[] #[.pointer (some ⟨w.heap.size + 4, 0, none⟩), .pointer (some ⟨w.heap.size + 5, 0, none⟩)], .slice (some ⟨w.heap.size + 7, 0, none⟩) 6 6, .int .i64 0, .int .i64 0, .bool false, undef, undef, .pointer (some ⟨w.heap.size, 0, none⟩), .agg #[.string k.M, .string k.O], .pointer (some ⟨w.heap.size + 1, 0, none⟩), .agg #[.string l.M, .string l.O], undef, .string V, .string R, .agg #[.string V, .string ⟨#[]⟩, .string R], .slice a8 3 n8, .string A, .pointer (some ⟨w.heap.size, 2, none⟩), .string k.G, .agg #[.string k.G, .int .i64 0], .pointer (some ⟨w.heap.size, 3, none⟩), .string k.H, .agg #[.string k.H, .int .i64 1], .slice (some ⟨q16, 0, none⟩) 2 2, undef, .string B, .pointer (some ⟨w.heap.size + 1, 2, none⟩), .string l.G, .agg #[.string l.G, .int .i64 0], .pointer (some ⟨w.heap.size + 1, 3, none⟩), .string l.H, .agg #[.string l.H, .int .i64 2], .slice (some ⟨q25, 0, none⟩) 2 2, undef, undef, undef]⟩, []⟩ W := by
    intro W a8 n8 q16 q25 hB hO hb h8 h16 h25
    refine hFi _ _ _ _ ?_
    have hS' := hB
    refine wpAnyH_ready (rs := [4, 17]) (by kernel_rfl) (by simp) ?_
    refine AllReadyH.cons rfl (fun K hK => ?_) (AllReadyH.cons rfl (fun K hK => ?_) AllReadyH.nil)
    · rw [if_pos (by rfl)]
      go_simp
      have kb := (Below.refl _ W).alloc (Nat.le_refl _) (.cells #[.string k.M, .string k.O, .string l.M, .string l.O] 26)
      have h4 := HPB.new W #[.string k.M, .string k.O, .string l.M, .string l.O] 26
      replace hB := hB.below kb (Nat.le_of_lt hO.lt)
      replace hO := hO.below kb hO.lt
      replace h8 := own_keepL kb h8
      replace h16 := h16.below kb
      replace h25 := h25.below kb
      replace hb := hb.trans (kb.mono hb.size)
      clear kb
      refine hK.out _ _ hB (fun hS' => ?_)
      clear hK
      try simp only [put9T, List.set]
      generalize W.heap.size = q4 at h4 ⊢
      generalize World.alloc W _ = W2 at hB hO hb h4 h8 h16 h25 ⊢
      refine hFo _ _ _ _ (shr (by kernel_rfl) (by kernel_rfl) (N4_8_16_25 W2 q4 a8 n8 q16 q25 hB hO hb h4 h8 h16 h25))
    · rw [if_pos (by rfl)]
      go_simp
      go_at_call 26
      refine (HQ.out 0 A k.G k.H 0 1 q16 2 _ (by rw [Lib.cell_of_heap h16]; rfl) (by rw [Lib.cell_of_heap h16]; rfl) (by rw [Lib.cell_of_heap h16]; rfl) (by rw [Lib.cell_of_heap h16]; rfl)).mono ?_; rintro e W2 ⟨⟨v17, rfl, h17⟩, kb⟩
      obtain ⟨a17, n17, rfl⟩ := own_sl h17
      replace hB := hB.below kb (Nat.le_of_lt hO.lt)
      replace hO := hO.below kb hO.lt
      replace h8 := own_keepL kb h8
      replace h16 := h16.below kb
      replace h25 := h25.below kb
      replace h17 := own_weakK h17 hb.size
      replace hb := hb.trans (kb.mono hb.size)
      clear kb
      refine hK.out _ _ hB (fun hS' => ?_)
      clear hK
      try simp only [put9T, List.set]
      refine hFo _ _ _ _ (shr (by kernel_rfl) (by kernel_rfl) (N8_16_17_25 W2 a8 n8 q16 a17 n17 q25 hB hO hb h8 h17 h25))
  have N4_8 : ∀ (W : World) (q4 : Nat) (a8 : Option Addr) (n8 : Nat), BX7 W w.heap.size k l A B V R → OBX W (w.heap.size + 6) (.slice none 0 0) (.slice none 0 0) (.slice none 0 0) → Below w.heap.size w W → HPB W q4 #[.string k.M, .string k.O, .string l.M, .string l.O] 26 → World.ownsRow W w.heap.size 77 1 (.slice a8 3 n8) 3 ([V, ⟨#[]⟩, R].map Value.string) → F 8 #[true, true, true, true, true, true, true, true, true, true, true, true, true, true, true, true, false, false, true, true, true, true, true, true, true, false, false, false, false, false, false] ⟨⟨[.agg #[.string k.M, .string k.O, .string k.G, .string k.H], .agg #[.string l.M, .string l.O, .string l.G, .string l.H], .string A, .string B, .string V, .string R, .pointer (some ⟨w.heap.size, 0, none⟩), .pointer (some ⟨w.heap.size + 1, 0, none⟩), .pointer (some ⟨w.heap.size + 2, 0, none⟩), .pointer (some ⟨w.heap.size + 3, 0, none⟩), .pointer (some ⟨w.heap.size + 4, 0, none⟩), .pointer (some ⟨w.heap.size + 5, 0, none⟩), .pointer (some ⟨w.heap.size + 6, 0, none⟩), .int .i64 0, .int .i64 0, .func (.func 13) #[] #[.pointer (some ⟨w.heap.size, 0, none⟩), .pointer (some ⟨w.heap.size + 1, 0, none⟩), .pointer (some ⟨w.heap.size + 2, 0, none⟩), .pointer (some ⟨w.heap.size + 3, 0, none⟩), .pointer (some ⟨w.heap.size + 4, 0, none⟩), .pointer (some ⟨w.heap.size + 5, 0, none⟩)], .func (.func 16) #[] #[.pointer (some ⟨w.heap.size, 0, none⟩)], .func (.func 18) #[] #[.pointer (some ⟨w.heap.size, 0, none⟩), .pointer (some ⟨w.heap.size + 1, 0, none⟩)], .func (.func 20) #[] #[.pointer (some ⟨w.heap.size, 0, none⟩), .pointer (some ⟨w.heap.size + 2, 0, none⟩)], .func (.func 22) #[] #[.pointer (some ⟨w.heap.size + 1, 0, none⟩), .pointer (some ⟨w.heap.size + 3, 0, none⟩)], .func (.func 23) #[] #[.pointer (some ⟨w.heap.size + 4, 0, none⟩), .pointer (some ⟨w.heap.size + 5, 0, none⟩)], .slice (some ⟨w.heap.size + 7, 0, none⟩) 6 6, .int .i64 0, .int .i64 0, .bool false, undef, undef, .pointer (some ⟨w.heap.size, 0, none⟩), .agg #[.string k.M, .string k.O], .pointer (some ⟨w.heap.size + 1, 0, none⟩), .agg #[.string l.M, .string l.O], .slice (some ⟨q4, 0, none⟩) 2 2, .string V, .string R, .agg #[.string V, .string ⟨#[]⟩, .string R], .slice a8 3 n8, .string A, .pointer (some ⟨w.heap.size, 2, none⟩), .string k.G, .agg #[.string k.G, .int .i64 0], .pointer (some ⟨w.heap.size, 3, none⟩), .string k.H, .agg #[.string k.H, .int .i64 1], undef, undef, .string B, .pointer (some ⟨w.heap.size + 1, 2, none⟩), .string l.G, .agg #[.string l.G, .int .i64 0], .pointer (some ⟨w.heap.size + 1, 3, none⟩), .string l.H, .agg #[.string l.H, .int .i64 2], undef, undef, undef, undef]⟩, []⟩ W := by
    intro W q4 a8 n8 hB hO hb h4 h8
    refine hFi _ _ _ _ ?_
    have hS' := hB
    refine wpAnyH_ready (rs := [16, 25]) (by kernel_rfl) (by simp) ?_
    refine AllReadyH.cons rfl (fun K hK => ?_) (AllReadyH.cons rfl (fun K hK => ?_) AllReadyH.nil)
    · rw [if_pos (by rfl)]
      go_simp
      have kb := (Below.refl _ W).alloc (Nat.le_refl _) (.cells #[.string k.G, .int .i64 0, .string k.H, .int .i64 1] 71)
      have h16 := HPB.new W #[.string k.G, .int .i64 0, .string k.H, .int .i64 1] 71
      replace hB := hB.below kb (Nat.le_of_lt hO.lt)
      replace hO := hO.below kb hO.lt
      replace h4 := h4.below kb
      replace h8 := own_keepL kb h8
      replace hb := hb.trans (kb.mono hb.size)
      clear kb
      refine hK.out _ _ hB (fun hS' => ?_)
      clear hK
      try simp only [put9T, List.set]
      generalize W.heap.size = q16 at h16 ⊢
      generalize World.alloc W _ = W2 at hB hO hb h16 h4 h8 ⊢
      refine hFo _ _ _ _ (shr (by kernel_rfl) (by kernel_rfl) (N4_8_16 W2 q4 a8 n8 q16 hB hO hb h4 h8 h16))
    · rw [if_pos (by rfl)]
      go_simp
      have kb := (Below.refl _ W).alloc (Nat.le_refl _) (.cells #[.string l.G, .int .i64 0, .string l.H, .int .i64 2] 71)
      have h25 := HPB.new W #[.string l.G, .int .i64 0, .string l.H, .int .i64 2] 71
      replace hB := hB.below kb (Nat.le_of_lt hO.lt)
      replace hO := hO.below kb hO.lt
      replace h4 := h4.below kb
      replace h8 := own_keepL kb h8
      replace hb := hb.trans (kb.mono hb.size)
      clear kb
      refine hK.out _ _ hB (fun hS' => ?_)
      clear hK
      try simp only [put9T, List.set]
      generalize W.heap.size = q25 at h25 ⊢
      generalize World.alloc W _ = W2 at hB hO hb h25 h4 h8 ⊢
      refine hFo _ _ _ _ (shr (by kernel_rfl) (by kernel_rfl) (N4_8_25 W2 q4 a8 n8 q25 hB hO hb h4 h8 h25))
  have N4_16 : ∀ (W : World) (q4 : Nat) (q16 : Nat), BX7 W w.heap.size k l A B V R → OBX W (w.heap.size + 6) (.slice none 0 0) (.slice none 0 0) (.slice none 0 0) → Below w.heap.size w W → HPB W q4 #[.string k.M, .string k.O, .string l.M, .string l.O] 26 → HPB W q16 #[.string k.G, .int .i64 0, .string k.H, .int .i64 1] 71 → F 8 #[true, true, true, true, true, true, true, true, false, true, true, true, true, true, true, true, true, false, true, true, true, true, true, true, true, false, false, false, false, false, false] ⟨⟨[.agg #[.string k.M, .string k.O, .string k.G, .string k.H], .agg #[.string l.M, .string l.O, .string l.G, .string l.H], .string A, .string B, .string V, .string R, .pointer (some ⟨w.heap.size, 0, none⟩), .pointer (some ⟨w.heap.size + 1, 0, none⟩), .pointer (some ⟨w.heap.size + 2, 0, none⟩), .pointer (some ⟨w.heap.size + 3, 0, none⟩), .pointer (some ⟨w.heap.size + 4, 0, none⟩), .pointer (some ⟨w.heap.size + 5, 0, none⟩), .pointer (some ⟨w.heap.size + 6, 0, none⟩), .int .i64 0, .int .i64 0, .func (.func 13) #[] #[.pointer (some ⟨w.heap.size, 0, none⟩), .pointer (some ⟨w.heap.size + 1, 0, none⟩), .pointer (some ⟨w.heap.size + 2, 0, none⟩), .pointer (some ⟨w.heap.size + 3, 0, none⟩), .pointer (some ⟨w.heap.size + 4, 0, none⟩), .pointer (some ⟨w.heap.size + 5, 0, none⟩)], .func (.func 16) #[] #[.pointer (some ⟨w.heap.size, 0, none⟩)], .func (.func 18) #[] #[.pointer (some ⟨w.heap.size, 0, none⟩), .pointer (some ⟨w.heap.size + 1, 0, none⟩)], .func (.func 20) #[] #[.pointer (some ⟨w.heap.size, 0, none⟩), .pointer (some ⟨w.heap.size + 2, 0, none⟩)], .func (.func 22) #[] #[.pointer (some ⟨w.heap.size + 1, 0, none⟩), .pointer (some ⟨w.heap.size + 3, 0, none⟩)], .func (.func 23) #[] #[.pointer (some ⟨w.heap.size + 4, 0, none⟩), .pointer (some ⟨w.heap.size + 5, 0, none⟩)], .slice (some ⟨w.heap.size + 7, 0, none⟩) 6 6, .int .i64 0, .int .i64 0, .bool false, undef, undef, .pointer (some ⟨w.heap.size, 0, none⟩), .agg #[.string k.M, .string k.O], .pointer (some ⟨w.heap.size + 1, 0, none⟩), .agg #[.string l.M, .string l.O], .slice (some ⟨q4, 0, none⟩) 2 2, .string V, .string R, .agg #[.string V, .string ⟨#[]⟩, .string R], undef, .string A, .pointer (some ⟨w.heap.size, 2, none⟩), .string k.G, .agg #[.string k.G, .int .i64 0], .pointer (some ⟨w.heap.size, 3, none⟩), .string k.H, .agg #[.string k.H, .int .i64 1], .slice (some ⟨q16, 0, none⟩) 2 2, undef, .string B, .pointer (some ⟨w.heap.size + 1, 2, none⟩), .string l.G, .agg #[.string l.G, .int .i64 0], .pointer (some ⟨w.heap.size + 1, 3, none⟩), .string l.H, .agg #[.string l.H, .int .i64 2], undef, undef, undef, undef]⟩, []⟩ W := by
    intro W q4 q16 hB hO hb h4 h16
    refine hFi _ _ _ _ ?_
    have hS' := hB
    refine wpAnyH_ready (rs := [8, 25]) (by kernel_rfl) (by simp) ?_
    refine AllReadyH.cons rfl (fun K hK => ?_) (AllReadyH.cons rfl (fun K hK => ?_) AllReadyH.nil)
    · rw [if_pos (by rfl)]
      go_simp
      go_at_call 25
      refine (HV.out _).mono ?_; rintro e W2 ⟨⟨v8, rfl, h8⟩, kb⟩
      obtain ⟨a8, n8, rfl⟩ := own_sl h8
      replace hB := hB.below kb (Nat.le_of_lt hO.lt)
      replace hO := hO.below kb hO.lt
      replace h4 := h4.below kb
      replace h16 := h16.below kb
      replace h8 := own_weakK h8 hb.size
      replace hb := hb.trans (kb.mono hb.size)
      clear kb
      refine hK.out _ _ hB (fun hS' => ?_)
      clear hK
      try simp only [put9T, List.set]
      refine hFo _ _ _ _ (shr (by kernel_rfl) (by kernel_rfl) (N4_8_16 W2 q4 a8 n8 q16 hB hO hb h4 h8 h16))
    · rw [if_pos (by rfl)]
      go_simp
      have kb := (Below.refl _ W).alloc (Nat.le_refl _) (.cells #[.string l.G, .int .i64 0, .string l.H, .int .i64 2] 71)
      have h25 := HPB.new W #[.string l.G, .int .i64 0, .string l.H, .int .i64 2] 71
      replace hB := hB.below kb (Nat.le_of_lt hO.lt)
      replace hO := hO.below kb hO.lt
      replace h4 := h4.below kb
      replace h16 := h16.below kb
      replace hb := hb.trans (kb.mono hb.size)
      clear kb
      refine hK.out _ _ hB (fun hS' => ?_)
      clear hK
      try simp only [put9T, List.set]
      generalize W.heap.size = q25 at h25 ⊢
      generalize World.alloc W _ = W2 at hB hO hb h25 h4 h16 ⊢
      refine hFo _ _ _ _ (shr (by kernel_rfl) (by kernel_rfl) (N4_16_25 W2 q4 q16 q25 hB hO hb h4 h16 h25))
  have N4_25 : ∀ (W : World) (q4 : Nat) (q25 : Nat), BX7 W w.heap.size k l A B V R → OBX W (w.heap.size + 6) (.slice none 0 0) (.slice none 0 0) (.slice none 0 0) → Below w.heap.size w W → HPB W q4 #[.string k.M, .string k.O, .string l.M, .string l.O] 26 → HPB W q25 #[.string l.G, .int .i64 0, .string l.H, .int .i64 2] 71 → F 8 #[true, true, true, true, true, true, true, true, false, true, true, true, true, true, true, true, false, false, true, true, true, true, true, true, true, true, false, false, false, false, false] ⟨⟨[.agg #[.string k.M, .string k.O, .string k.G, .string k.H], .agg #[.string l.M, .string l.O, .string l.G, .string l.H], .string A, .string B, .string V, .string R, .pointer (some ⟨w.heap.size, 0, none⟩), .pointer (some ⟨w.heap.size + 1, 0, none⟩), .pointer (some ⟨w.heap.size + 2, 0, none⟩), .pointer (some ⟨w.heap.size + 3, 0, none⟩), .pointer (some ⟨w.heap.size + 4, 0, none⟩), .pointer (some ⟨w.heap.size + 5, 0, none⟩), .pointer (some ⟨w.heap.size + 6, 0, none⟩), .int .i64 0, .int .i64 0, .func (.func 13) #[] #[.pointer (some ⟨w.heap.size, 0, none⟩), .pointer (some ⟨w.heap.size + 1, 0, none⟩), .pointer (some ⟨w.heap.size + 2, 0, none⟩), .pointer (some ⟨w.heap.size + 3, 0, none⟩), .pointer (some ⟨w.heap.size + 4, 0, none⟩), .pointer (some ⟨w.heap.size + 5, 0, none⟩)], .func (.func 16) #[] #[.pointer (some ⟨w.heap.size, 0, none⟩)], .func (.func 18) #[] #[.pointer (some ⟨w.heap.size, 0, none⟩), .pointer (some ⟨w.heap.size + 1, 0, none⟩)], .func (.func 20) #[] #[.pointer (some ⟨w.heap.size, 0, none⟩), .pointer (some ⟨w.heap.size + 2, 0, none⟩)], .func (.func 22) #[] #[.pointer (some ⟨w.heap.size + 1, 0, none⟩), .pointer (some ⟨w.heap.size + 3, 0, none⟩)], .func (.func 23) #[] #[.pointer (some ⟨w.heap.size + 4, 0, none⟩), .pointer (some ⟨w.heap.size + 5, 0, none⟩)], .slice (some ⟨w.heap.size + 7, 0, none⟩) 6 6, .int .i64 0, .int .i64 0, .bool false, undef, undef, .pointer (some ⟨w.heap.size, 0, none⟩), .agg #[.string k.M, .string k.O], .pointer (some ⟨w.heap.size + 1, 0, none⟩), .agg #[.string l.M, .string l.O], .slice (some ⟨q4, 0, none⟩) 2 2, .string V, .string R, .agg #[.string V, .string ⟨#[]⟩, .string R], undef, .string A, .pointer (some ⟨w.heap.size, 2, none⟩), .string k.G, .agg #[.string k.G, .int .i64 0], .pointer (some ⟨w.heap.size, 3, none⟩), .string k.H, .agg #[.string k.H, .int .i64 1], undef, undef, .string B, .pointer (some ⟨w.heap.size + 1, 2, none⟩), .string l.G, .agg #[.string l.G, .int .i64 0], .pointer (some ⟨w.heap.size + 1, 3, none⟩), .string l.H, .agg #[.string l.H, .int .i64 2], .slice (some ⟨q25, 0, none⟩) 2 2, undef, undef, undef]⟩, []⟩ W := by
    intro W q4 q25 hB hO hb h4 h25
    refine hFi _ _ _ _ ?_
    have hS' := hB
    refine wpAnyH_ready (rs := [8, 16]) (by kernel_rfl) (by simp) ?_
    refine AllReadyH.cons rfl (fun K hK => ?_) (AllReadyH.cons rfl (fun K hK => ?_) AllReadyH.nil)
    · rw [if_pos (by rfl)]
      go_simp
      go_at_call 25
      refine (HV.out _).mono ?_; rintro e W2 ⟨⟨v8, rfl, h8⟩, kb⟩
      obtain ⟨a8, n8, rfl⟩ := own_sl h8
      replace hB := hB.below kb (Nat.le_of_lt hO.lt)
      replace hO := hO.below kb hO.lt
      replace h4 := h4.below kb
      replace h25 := h25.below kb
      replace h8 := own_weakK h8 hb.size
      replace hb := hb.trans (kb.mono hb.size)
      clear kb
      refine hK.out _ _ hB (fun hS' => ?_)
      clear hK
      try simp only [put9T, List.set]
      refine hFo _ _ _ _ (shr (by kernel_rfl) (by kernel_rfl) (N4_8_25 W2 q4 a8 n8 q25 hB hO hb h4 h8 h25))
    · rw [if_pos (by rfl)]
      go_simp
      have kb := (Below.refl _ W).alloc (Nat.le_refl _) (.cells #[.string k.G, .int .i64 0, .string k.H, .int .i64 1] 71)
      have h16 := HPB.new W #[.string k.G, .int .i64 0, .string k.H, .int .i64 1] 71
      replace hB := hB.below kb (Nat.le_of_lt hO.lt)
      replace hO := hO.below kb hO.lt
      replace h4 := h4.below kb
      replace h25 := h25.below kb
      replace hb := hb.trans (kb.mono hb.size)
      clear kb
      refine hK.out _ _ hB (fun hS' => ?_)
      clear hK
      try simp only [put9T, List.set]
      generalize W.heap.size = q16 at h16 ⊢
      generalize World.alloc W _ = W2 at hB hO hb h16 h4 h25 ⊢
      refine hFo _ _ _ _ (shr (by kernel_rfl) (by kernel_rfl) (N4_16_25 W2 q4 q16 q25 hB hO hb h4 h16 h25))
  have N8_16 : ∀ (W : World) (a8 : Option Addr) (n8 : Nat) (q16 : Nat), BX7 W w.heap.size k l A B V R → OBX W (w.heap.size + 6) (.slice none 0 0) (.slice none 0 0) (.slice none 0 0) → Below w.heap.size w W → World.ownsRow W w.heap.size 77 1 (.slice a8 3 n8) 3 ([V, ⟨#[]⟩, R].map Value.string) → HPB W q16 #[.string k.G, .int .i64 0, .string k.H, .int .i64 1] 71 → F 8 #[true, true, true, true, false, true, true, true, true, true, true, true, true, true, true, true, true, false, true, true, true, true, true, true, true, false, false, false, false, false, false] ⟨⟨[.agg #[.string k.M, .string k.O, .string k.G, .string k.H], .agg #[.string l.M, .string l.O, .string l.G, .string l.H], .string A, .string B, .string V, .string R, .pointer (some ⟨w.heap.size, 0, none⟩), .pointer (some ⟨w.heap.size + 1, 0, none⟩), .pointer (some ⟨w.heap.size + 2, 0, none⟩), .pointer (some ⟨w.heap.size + 3, 0, none⟩), .pointer (some ⟨w.heap.size + 4, 0, none⟩), .pointer (some ⟨w.heap.size + 5, 0, none⟩), .pointer (some ⟨w.heap.size + 6, 0, none⟩), .int .i64 0, .int .i64 0, .func (.func 13) #[] #[.pointer (some ⟨w.heap.size, 0, none⟩), .pointer (some ⟨w.heap.size + 1, 0, none⟩), .pointer (some ⟨w.heap.size + 2, 0, none⟩), .pointer (some ⟨w.heap.size + 3, 0, none⟩), .pointer (some ⟨w.heap.size + 4, 0, none⟩), .pointer (some ⟨w.heap.size + 5, 0, none⟩)], .func (.func 16) #[] #[.pointer (some ⟨w.heap.size, 0, none⟩)], .func (.func 18) #[] #[.pointer (some ⟨w.heap.size, 0, none⟩), .pointer (some ⟨w.heap.size + 1, 0, none⟩)], .func (.func 20) #[] #[.pointer (some ⟨w.heap.size, 0, none⟩), .pointer (some ⟨w.heap.size + 2, 0, none⟩)], .func (.func 22) #[] #[.pointer (some ⟨w.heap.size + 1, 0, none⟩), .pointer (some ⟨w.heap.size + 3, 0, none⟩)], .func (.func 23) #[] #[.pointer (some ⟨w.heap.size + 4, 0, none⟩), .pointer (some ⟨w.heap.size + 5, 0, none⟩)], .slice (some ⟨w.heap.size + 7, 0, none⟩) 6 6, .int .i64 0, .int .i64 0, .bool false, undef, undef, .pointer (some ⟨w.heap.size, 0, none⟩), .agg #[.string k.M, .string k.O], .pointer (some ⟨w.heap.size + 1, 0, none⟩), .agg #[.string l.M, .string l.O], undef, .string V, .string R, .agg #[.string V, .string ⟨#[]⟩, .string R], .slice a8 3 n8, .string A, .pointer (some ⟨w.heap.size, 2, none⟩), .string k.G, .agg #[.string k.G, .int .i64 0], .pointer (some ⟨w.heap.size, 3, none⟩), .string k.H, .agg #[.string k.H, .int .i64 1], .slice (some ⟨q16, 0, none⟩) 2 2, undef, .string B, .pointer (some ⟨w.heap.size + 1, 2, none⟩), .string l.G, .agg #[.string l.G, .int .i64 0], .pointer (some ⟨w.heap.size + 1, 3, none⟩), .string l.H, .agg #[.string l.H, .int .i64 2], undef, undef, undef, undef]⟩, []⟩ W := by
    intro W a8 n8 q16 hB hO hb h8 h16
    refine hFi _ _ _ _ ?_
    have hS' := hB
    refine wpAnyH_ready (rs := [4, 17, 25]) (by kernel_rfl) (by simp) ?_
    refine AllReadyH.cons rfl (fun K hK => ?_) (AllReadyH.cons rfl (fun K hK => ?_) (AllReadyH.cons rfl (fun K hK => ?_) AllReadyH.nil))
    · rw [if_pos (by rfl)]
      go_simp
      have kb := (Below.refl _ W).alloc (Nat.le_refl _) (.cells #[.string k.M, .string k.O, .string l.M, .string l.O] 26)
      have h4 := HPB.new W #[.string k.M, .string k.O, .string l.M, .string l.O] 26
      replace hB := hB.below kb (Nat.le_of_lt hO.lt)
      replace hO := hO.below kb hO.lt
      replace h8 := own_keepL kb h8
      replace h16 := h16.below kb
      replace hb := hb.trans (kb.mono hb.size)
      clear kb
      refine hK.out _ _ hB (fun hS' => ?_)
      clear hK
      try simp only [put9T, List.set]
      generalize W.heap.size = q4 at h4 ⊢
      generalize World.alloc W _ = W2 at hB hO hb h4 h8 h16 ⊢
      refine hFo _ _ _ _ (shr (by kernel_rfl) (by kernel_rfl) (N4_8_16 W2 q4 a8 n8 q16 hB hO hb h4 h8 h16))
    · rw [if_pos (by rfl)]
      go_simp
      go_at_call 26
      refine (HQ.out 0 A k.G k.H 0 1 q16 2 _ (by rw [Lib.cell_of_heap h16]; rfl) (by rw [Lib.cell_of_heap h16]; rfl) (by rw [Lib.cell_of_heap h16]; rfl) (by rw [Lib.cell_of_heap h16]; rfl)).mono ?_; rintro e W2 ⟨⟨v17, rfl, h17⟩, kb⟩
      obtain ⟨a17, n17, rfl⟩ := own_sl h17
      replace hB := hB.below kb (Nat.le_of_lt hO.lt)
      replace hO := hO.below kb hO.lt
      replace h8 := own_keepL kb h8
      replace h16 := h16.below kb
      replace h17 := own_weakK h17 hb.size
      replace hb := hb.trans (kb.mono hb.size)
      clear kb
      refine hK.out _ _ hB (fun hS' => ?_)
      clear hK
      try simp only [put9T, List.set]
      refine hFo _ _ _ _ (shr (by kernel_rfl) (by kernel_rfl) (N8_16_17 W2 a8 n8 q16 a17 n17 hB hO hb h8 h17))
    · rw [if_pos (by rfl)]
      go_simp
      have kb := (Below.refl _ W).alloc (Nat.le_refl _) (.cells #[.string l.G, .int .i64 0, .string l.H, .int .i64 2] 71)
      have h25 := HPB.new W #[.string l.G, .int .i64 0, .string l.H, .int .i64 2] 71
      replace hB := hB.below kb (Nat.le_of_lt hO.lt)
      replace hO := hO.below kb hO.lt
      replace h8 := own_keepL kb h8
      replace h16 := h16.below kb
      replace hb := hb.trans (kb.mono hb.size)
      clear kb
      refine hK.out _ _ hB (fun hS' => ?_)
      clear hK
      try simp only [put9T, List.set]
      generalize W.heap.size = q25 at h25 ⊢
      generalize World.alloc W _ = W2 at hB hO hb h25 h8 h16 ⊢
      refine hFo _ _ _ _ (shr (by kernel_rfl) (by kernel_rfl) (N8_16_25 W2 a8 n8 q16 q25 hB hO hb h8 h16 h25))
  have N8_25 : ∀ (W : World) (a8 : Option Addr) (n8 : Nat) (q25 : Nat), BX7 W w.heap.size k l A B V R → OBX W (w.heap.size + 6) (.slice none 0 0) (.slice none 0 0) (.slice none 0 0) → Below w.heap.size w W → World.ownsRow W w.heap.size 77 1 (.slice a8 3 n8) 3 ([V, ⟨#[]⟩, R].map Value.string) → HPB W q25 #[.string l.G, .int .i64 0, .string l.H, .int .i64 2] 71 → F 8 #[true, true, true, true, false, true, true, true, true, true, true, true, true, true, true, true, false, false, true, true, true, true, true, true, true, true, false, false, false, false, false] ⟨⟨[.agg #[.string k.M, .string k.O, .string k.G, .string k.H], .agg #[.string l.M, .string l.O, .string l.G, .string l.H], .string A, .string B, .string V, .string R, .pointer (some ⟨w.heap.size, 0, none⟩), .pointer (some ⟨w.heap.size + 1, 0, none⟩), .pointer (some ⟨w.heap.size + 2, 0, none⟩), .pointer (some ⟨w.heap.size + 3, 0, none⟩), .pointer (some ⟨w.heap.size + 4, 0, none⟩), .pointer (some ⟨w.heap.size + 5, 0, none⟩), .pointer (some ⟨w.heap.size + 6, 0, none⟩), .int .i64 0, .int .i64 0, .func (.func 13) #[] #[.pointer (some ⟨w.heap.size, 0, none⟩), .pointer (some ⟨w.heap.size + 1, 0, none⟩), .pointer (some ⟨w.heap.size + 2, 0, none⟩), .pointer (some ⟨w.heap.size + 3, 0, none⟩), .pointer (some ⟨w.heap.size + 4, 0, none⟩), .pointer (some ⟨w.heap.size + 5, 0, none⟩)], .func (.func 16) #[] #[.pointer (some ⟨w.heap.size, 0, none⟩)], .func (.func 18) #[] #[.pointer (some ⟨w.heap.size, 0, none⟩), .pointer (some ⟨w.heap.size + 1, 0, none⟩)], .func (.func 20) #[] #[.pointer (some ⟨w.heap.size, 0, none⟩), .pointer (some ⟨w.heap.size + 2, 0, none⟩)], .func (.func 22) #[] #[.pointer (some ⟨w.heap.size + 1, 0, none⟩), .pointer (some ⟨w.heap.size + 3, 0, none⟩)], .func (.func 23) #[] #[.pointer (some ⟨w.heap.size + 4, 0, none⟩), .pointer (some ⟨w.heap.size + 5, 0, none⟩)], .slice (some ⟨w.heap.size + 7, 0, none⟩) 6 6, .int .i64 0, .int .i64 0, .bool false, undef, undef, .pointer (some ⟨w.heap.size, 0, none⟩), .agg #[.string k.M, .string k.O], .pointer (some ⟨w.heap.size + 1, 0, none⟩), .agg #[.string l.M, .string l.O], undef, .string V, .string R, .agg #[.string V, .string ⟨#[]⟩, .string R], .slice a8 3 n8, .string A, .pointer (some ⟨w.heap.size, 2, none⟩), .string k.G, .agg #[.string k.G, .int .i64 0], .pointer (some ⟨w.heap.size, 3, none⟩), .string k.H, .agg #[.string k.H, .int .i64 1], undef, undef, .string B, .pointer (some ⟨w.heap.size + 1, 2, none⟩), .string l.G, .agg #[.string l.G, .int .i64 0], .pointer (some ⟨w.heap.size + 1, 3, none⟩), .string l.H, .agg #[.string l.H, .int .i64 2], .slice (some ⟨q25, 0, none⟩) 2 2, undef, undef, undef]⟩, []⟩ W := by
    intro W a8 n8 q25 hB hO hb h8 h25
    refine hFi _ _ _ _ ?_
    have hS' := hB
    refine wpAnyH_ready (rs := [4, 16]) (by kernel_rfl) (by simp) ?_
    refine AllReadyH.cons rfl (fun K hK => ?_) (AllReadyH.cons rfl (fun K hK => ?_) AllReadyH.nil)
    · rw [if_pos (by rfl)]
      go_simp
      have kb := (Below.refl _ W).alloc (Nat.le_refl _) (.cells #[.string k.M, .string k.O, .string l.M, .string l.O] 26)
      have h4 := HPB.new W #[.string k.M, .string k.O, .string l.M, .string l.O] 26
      replace hB := hB.below kb (Nat.le_of_lt hO.lt)
      replace hO := hO.below kb hO.lt
      replace h8 := own_keepL kb h8
      replace h25 := h25.below kb
      replace hb := hb.trans (kb.mono hb.size)
      clear kb
      refine hK.out _ _ hB (fun hS' => ?_)
      clear hK
      try simp only [put9T, List.set]
      generalize W.heap.size = q4 at h4 ⊢
      generalize World.alloc W _ = W2 at hB hO hb h4 h8 h25 ⊢
      refine hFo _ _ _ _ (shr (by kernel_rfl) (by kernel_rfl) (N4_8_25 W2 q4 a8 n8 q25 hB hO hb h4 h8 h25))
    · rw [if_pos (by rfl)]
      go_simp
      have kb := (Below.refl _ W).alloc (Nat.le_refl _) (.cells #[.string k.G, .int .i64 0, .string k.H, .int .i64 1] 71)
      have h16 := HPB.new W #[.string k.G, .int .i64 0, .string k.H, .int .i64 1] 71
      replace hB := hB.below kb (Nat.le_of_lt hO.lt)
      replace hO := hO.below kb hO.lt
      replace h8 := own_keepL kb h8
      replace h25 := h25.below kb
      replace hb := hb.trans (kb.mono hb.size)
      clear kb
      refine hK.out _ _ hB (fun hS' => ?_)
      clear hK
      try simp only [put9T, List.set]
      generalize W.heap.size = q16 at h16 ⊢
      generalize World.alloc W _ = W2 at hB hO hb h16 h8 h25 ⊢
      refine hFo _ _ _ _ (shr (by kernel_rfl) (by kernel_rfl) (N8_16_25 W2 a8 n8 q16 q25 hB hO hb h8 h16 h25))
  have N16_25 : ∀ (W : World) (q16 : Nat) (q25 : Nat), BX7 W w.heap.size k l A B V R → OBX W (w.heap.size + 6) (.slice none 0 0) (.slice none 0 0) (.slice none 0 0) → Below w.heap.size w W → HPB W q16 #[.string k.G, .int .i64 0, .string k.H, .int .i64 1] 71 → HPB W q25 #[.string l.G, .int .i64 0, .string l.H, .int .i64 2] 71 → F 8 #[true, true, true, true, false, true, true, true, false, true, true, true, true, true, true, true, true, false, true, true, true, true, true, true, true, true, false, false, false, false, false] ⟨⟨[.agg #[.string k.M, .string k.O, .string k.G, .string k.H], .agg #[.string l.M, .string l.O, .string l.G, .string l.H], .string A, .string B, .string V, .string R, .pointer (some ⟨w.heap.size, 0, none⟩), .pointer (some ⟨w.heap.size + 1, 0, none⟩), .pointer (some ⟨w.heap.size + 2, 0, none⟩), .pointer (some ⟨w.heap.size + 3, 0, none⟩), .pointer (some ⟨w.heap.size + 4, 0, none⟩), .pointer (some ⟨w.heap.size + 5, 0, none⟩), .pointer (some ⟨w.heap.size + 6, 0, none⟩), .int .i64 0, .int .i64 0, .func (.func 13) #[] #[.pointer (some ⟨w.heap.size, 0, none⟩), .pointer (some ⟨w.heap.size + 1, 0, none⟩), .pointer (some ⟨w.heap.size + 2, 0, none⟩), .pointer (some ⟨w.heap.size + 3, 0, none⟩), .pointer (some ⟨w.heap.size + 4, 0, none⟩), .pointer (some ⟨w.heap.size + 5, 0, none⟩)], .func (.func 16) #[] #[.pointer (some ⟨w.heap.size, 0, none⟩)], .func (.func 18) #[] #[.pointer (some ⟨w.heap.size, 0, none⟩), .pointer (some ⟨w.heap.size + 1, 0, none⟩)], .func (.func 20) #[] #[.pointer (some ⟨w.heap.size, 0, none⟩), .pointer (some ⟨w.heap.size + 2, 0, none⟩)], .func (.func 22) #[] #[.pointer (some ⟨w.heap.size + 1, 0, none⟩), .pointer (some ⟨w.heap.size + 3, 0, none⟩)], .func (.func 23) #[] #[.pointer (some ⟨w.heap.size + 4, 0, none⟩), .pointer (some ⟨w.heap.size + 5, 0, none⟩)], .slice (some ⟨w.heap.size + 7, 0, none⟩) 6 6, .int .i64 0, .int .i64 0, .bool false, undef, undef, .pointer (some ⟨w.heap.size, 0, none⟩), .agg #[.string k.M, .string k.O], .pointer (some ⟨w.heap.size + 1, 0, none⟩), .agg #[.string l.M, .string l.O], undef, .string V, .string R, .agg #[.string V, .string ⟨#[]⟩, .string R], undef, .string A, .pointer (some ⟨w.heap.size, 2, none⟩), .string k.G, .agg #[.string k.G, .int .i64 0], .pointer (some ⟨w.heap.size, 3, none⟩), .string k.H, .agg #[.string k.H, .int .i64 1], .slice (some ⟨q16, 0, none⟩) 2 2, undef, .string B, .pointer (some ⟨w.heap.size + 1, 2, none⟩), .string l.G, .agg #[.string l.G, .int .i64 0], .pointer (some ⟨w.heap.size + 1, 3, none⟩), .string l.H, .agg #[.string l.H, .int .i64 2], .slice (some ⟨q25, 0, none⟩) 2 2, undef, undef, undef]⟩, []⟩ W := by
    intro W q16 q25 hB hO hb h16 h25
    refine hFi _ _ _ _ ?_
    have hS' := hB
    refine wpAnyH_ready (rs := [4, 8]) (by kernel_rfl) (by simp) ?_
    refine AllReadyH.cons rfl (fun K hK => ?_) (AllReadyH.cons rfl (fun K hK => ?_) AllReadyH.nil)
    · rw [if_pos (by rfl)]
      go_simp
      have kb := (Below.refl _ W).alloc (Nat.le_refl _) (.cells #[.string k.M, .string k.O, .string l.M, .string l.O] 26)
      have h4 := HPB.new W #[.string k.M, .string k.O, .string l.M, .string l.O] 26
      replace hB := hB.below kb (Nat.le_of_lt hO.lt)
      replace hO := hO.below kb hO.lt
      replace h16 := h16.below kb
      replace h25 := h25.below kb
      replace hb := hb.trans (kb.mono hb.size)
      clear kb
      refine hK.out _ _ hB (fun hS' => ?_)
      clear hK
      try simp only [put9T, List.set]
      generalize W.heap.size = q4 at h4 ⊢
      generalize World.alloc W _ = W2 at hB hO hb h4 h16 h25 ⊢
      refine hFo _ _ _ _ (shr (by kernel_rfl) (by kernel_rfl) (N4_16_25 W2 q4 q16 q25 hB hO hb h4 h16 h25))
    · rw [if_pos (by rfl)]
      go_simp
      go_at_call 25
      refine (HV.out _).mono ?_; rintro e W2 ⟨⟨v8, rfl, h8⟩, kb⟩
      obtain ⟨a8, n8, rfl⟩ := own_sl h8
      replace hB := hB.below kb (Nat.le_of_lt hO.lt)
      replace hO := hO.below kb hO.lt
      replace h16 := h16.below kb
      replace h25 := h25.below kb
      replace h8 := own_weakK h8 hb.size
      replace hb := hb.trans (kb.mono hb.size)
      clear kb
      refine hK.out _ _ hB (fun hS' => ?_)
      clear hK
      try simp only [put9T, List.set]
      refine hFo _ _ _ _ (shr (by kernel_rfl) (by kernel_rfl) (N8_16_25 W2 a8 n8 q16 q25 hB hO hb h8 h16 h25))
  have N4 : ∀ (W : World) (q4 : Nat), BX7 W w.heap.size k l A B V R → OBX W (w.heap.size + 6) (.slice none 0 0) (.slice none 0 0) (.slice none 0 0) → Below w.heap.size w W → HPB W q4 #[.string k.M, .string k.O, .string l.M, .string l.O] 26 → F 9 #[true, true, true, true, true, true, true, true, false, true, true, true, true, true, true, true, false, false, true, true, true, true, true, true, true, false, false, false, false, false, false] ⟨⟨[.agg #[.string k.M, .string k.O, .string k.G, .string k.H], .agg #[.string l.M, .string l.O, .string l.G, .string l.H], .string A, .string B, .string V, .string R, .pointer (some ⟨w.heap.size, 0, none⟩), .pointer (some ⟨w.heap.size + 1, 0, none⟩), .pointer (some ⟨w.heap.size + 2, 0, none⟩), .pointer (some ⟨w.heap.size + 3, 0, none⟩), .pointer (some ⟨w.heap.size + 4, 0, none⟩), .pointer (some ⟨w.heap.size + 5, 0, none⟩), .pointer (some ⟨w.heap.size + 6, 0, none⟩), .int .i64 0, .int .i64 0, .func (.func 13) #[] #[.pointer (some ⟨w.heap.size, 0, none⟩), .pointer (some ⟨w.heap.size + 1, 0, none⟩), .pointer (some ⟨w.heap.size + 2, 0, none⟩), .pointer (some ⟨w.heap.size + 3, 0, none⟩), .pointer (some ⟨w.heap.size + 4, 0, none⟩), .pointer (some ⟨w.heap.size + 5, 0, none⟩)], .func (.func 16) #[] #[.pointer (some ⟨w.heap.size, 0, none⟩)], .func (.func 18) #[] #[.pointer (some ⟨w.heap.size, 0, none⟩), .pointer (some ⟨w.heap.size + 1, 0, none⟩)], .func (.func 20) #[] #[.pointer (some ⟨w.heap.size, 0, none⟩), .pointer (some ⟨w.heap.size + 2, 0, none⟩)], .func (.func 22) #[] #[.pointer (some ⟨w.heap.size + 1, 0, none⟩), .pointer (some ⟨w.heap.size + 3, 0, none⟩)], .func (.func 23) #[] #[.pointer (some ⟨w.heap.size + 4, 0, none⟩), .pointer (some ⟨w.heap.size + 5, 0, none⟩)], .slice (some ⟨w.heap.size + 7, 0, none⟩) 6 6, .int .i64 0, .int .i64 0, .bool false, undef, undef, .pointer (some ⟨w.heap.size, 0, none⟩), .agg #[.string k.M, .string k.O], .pointer (some ⟨w.heap.size + 1, 0, none⟩), .agg #[.string l.M, .string l.O], .slice (some ⟨q4, 0, none⟩) 2 2, .string V, .string R, .agg #[.string V, .string ⟨#[]⟩, .string R], undef, .string A, .pointer (some ⟨w.heap.size, 2, none⟩), .string k.G, .agg #[.string k.G, .int .i64 0], .pointer (some ⟨w.heap.size, 3, none⟩), .string k.H, .agg #[.string k.H, .int .i64 1], undef, undef, .string B, .pointer (some ⟨w.heap.size + 1, 2, none⟩), .string l.G, .agg #[.string l.G, .int .i64 0], .pointer (some ⟨w.heap.size + 1, 3, none⟩), .string l.H, .agg #[.string l.H, .int .i64 2], undef, undef, undef, undef]⟩, []⟩ W := by
    intro W q4 hB hO hb h4
    refine hFi _ _ _ _ ?_
    have hS' := hB
    refine wpAnyH_ready (rs := [8, 16, 25]) (by kernel_rfl) (by simp) ?_
    refine AllReadyH.cons rfl (fun K hK => ?_) (AllReadyH.cons rfl (fun K hK => ?_) (AllReadyH.cons rfl (fun K hK => ?_) AllReadyH.nil))
    · rw [if_pos (by rfl)]
      go_simp
      go_at_call 25
      refine (HV.out _).mono ?_; rintro e W2 ⟨⟨v8, rfl, h8⟩, kb⟩
      obtain ⟨a8, n8, rfl⟩ := own_sl h8
      replace hB := hB.below kb (Nat.le_of_lt hO.lt)
      replace hO := hO.below kb hO.lt
      replace h4 := h4.below kb
      replace h8 := own_weakK h8 hb.size
      replace hb := hb.trans (kb.mono hb.size)
      clear kb
      refine hK.out _ _ hB (fun hS' => ?_)
      clear hK
      try simp only [put9T, List.set]
      refine hFo _ _ _ _ (shr (by kernel_rfl) (by kernel_rfl) (N4_8 W2 q4 a8 n8 hB hO hb h4 h8))
    · rw [if_pos (by rfl)]
      go_simp
      have kb := (Below.refl _ W).alloc (Nat.le_refl _) (.cells #[.string k.G, .int .i64 0, .string k.H, .int .i64 1] 71)
      have h16 := HPB.new W #[.string k.G, .int .i64 0, .string k.H, .int .i64 1] 71
      replace hB := hB.below kb (Nat.le_of_lt hO.lt)
      replace hO := hO.below kb hO.lt
      replace h4 := h4.below kb
      replace hb := hb.trans (kb.mono hb.size)
      clear kb
      refine hK.out _ _ hB (fun hS' => ?_)
      clear hK
      try simp only [put9T, List.set]
      generalize W.heap.size = q16 at h16 ⊢
      generalize World.alloc W _ = W2 at hB hO hb h16 h4 ⊢
      refine hFo _ _ _ _ (shr (by kernel_rfl) (by kernel_rfl) (N4_16 W2 q4 q16 hB hO hb h4 h16))
    · rw [if_pos (by rfl)]
      go_simp
      have kb := (Below.refl _ W).alloc (Nat.le_refl _) (.cells #[.string l.G, .int .i64 0, .string l.H, .int .i64 2] 71)
      have h25 := HPB.new W #[.string l.G, .int .i64 0, .string l.H, .int .i64 2] 71
      replace hB := hB.below kb (Nat.le_of_lt hO.lt)
      replace hO := hO.below kb hO.lt
      replace h4 := h4.below kb
      replace hb := hb.trans (kb.mono hb.size)
      clear kb
      refine hK.out _ _ hB (fun hS' => ?_)
      clear hK
      try simp only [put9T, List.set]
      generalize W.heap.size = q25 at h25 ⊢
      generalize World.alloc W _ = W2 at hB hO hb h25 h4 ⊢
      refine hFo _ _ _ _ (shr (by kernel_rfl) (by kernel_rfl) (N4_25 W2 q4 q25 hB hO hb h4 h25))
  have N8 : ∀ (W : World) (a8 : Option Addr) (n8 : Nat), BX7 W w.heap.size k l A B V R → OBX W (w.heap.size + 6) (.slice none 0 0) (.slice none 0 0) (.slice none 0 0) → Below w.heap.size w W → World.ownsRow W w.heap.size 77 1 (.slice a8 3 n8) 3 ([V, ⟨#[]⟩, R].map Value.string) → F 9 #[true, true, true, true, false, true, true, true, true, true, true, true, true, true, true, true, false, false, true, true, true, true, true, true, true, false, false, false, false, false, false] ⟨⟨[.agg #[.string k.M, .string k.O, .string k.G, .string k.H], .agg #[.string l.M, .string l.O, .string l.G, .string l.H], .string A, .string B, .string V, .string R, .pointer (some ⟨w.heap.size, 0, none⟩), .pointer (some ⟨w.heap.size + 1, 0, none⟩), .pointer (some ⟨w.heap.size + 2, 0, none⟩), .pointer (some ⟨w.heap.size + 3, 0, none⟩), .pointer (some ⟨w.heap.size + 4, 0, none⟩), .pointer (some ⟨w.heap.size + 5, 0, none⟩), .pointer (some ⟨w.heap.size + 6, 0, none⟩), .int .i64 0, .int .i64 0, .func (.func 13) #[] #[.pointer (some ⟨w.heap.size, 0, none⟩), .pointer (some ⟨w.heap.size + 1, 0, none⟩), .pointer (some ⟨w.heap.size + 2, 0, none⟩), .pointer (some ⟨w.heap.size + 3, 0, none⟩), .pointer (some ⟨w.heap.size + 4, 0, none⟩), .pointer (some ⟨w.heap.size + 5, 0, none⟩)], .func (.func 16) #[] #[.pointer (some ⟨w.heap.size, 0, none⟩)], .func (.func 18) #[] #[.pointer (some ⟨w.heap.size, 0, none⟩), .pointer (some ⟨w.heap.size + 1, 0, none⟩)], .func (.func 20) #[] #[.pointer (some ⟨w.heap.size, 0, none⟩), .pointer (some ⟨w.heap.size + 2, 0, none⟩)], .func (.func 22) #[] #[.pointer (some ⟨w.heap.size + 1, 0, none⟩), .pointer (some ⟨w.heap.size + 3, 0, none⟩)], .func (.func 23) #[] #[.pointer (some ⟨w.heap.size + 4, 0, none⟩), .pointer (some ⟨w.heap.size + 5, 0, none⟩)], .slice (some ⟨w.heap.size + 7, 0, none⟩) 6 6, .int .i64 0, .int .i64 0, .bool false, undef, undef, .pointer (some ⟨w.heap.size, 0, none⟩), .agg #[.string k.M, .string k.O], .pointer (some ⟨w.heap.size + 1, 0, none⟩), .agg #[.string l.M, .string l.O], undef, .string V, .string R, .agg #[.string V, .string ⟨#[]⟩, .string R], .slice a8 3 n8, .string A, .pointer (some ⟨w.heap.size, 2, none⟩), .string k.G, .agg #[.string k.G, .int .i64 0], .pointer (some ⟨w.heap.size, 3, none⟩), .string k.H, .agg #[.string k.H, .int .i64 1], undef, undef, .string B, .pointer (some ⟨w.heap.size + 1, 2, none⟩), .string l.G, .agg #[.string l.G, .int .i64 0], .pointer (some ⟨w.heap.size + 1, 3, none⟩), .string l.H, .agg #[.string l.H, .int .i64 2], undef, undef, undef, undef]⟩, []⟩ W := by
    intro W a8 n8 hB hO hb h8
    refine hFi _ _ _ _ ?_
    have hS' := hB
    refine wpAnyH_ready (rs := [4, 16, 25]) (by kernel_rfl) (by simp) ?_
    refine AllReadyH.cons rfl (fun K hK => ?_) (AllReadyH.cons rfl (fun K hK => ?_) (AllReadyH.cons rfl (fun K hK => ?_) AllReadyH.nil))
    · rw [if_pos (by rfl)]
      go_simp
      have kb := (Below.refl _ W).alloc (Nat.le_refl _) (.cells #[.string k.M, .string k.O, .string l.M, .string l.O] 26)
      have h4 := HPB.new W #[.string k.M, .string k.O, .string l.M, .string l.O] 26
      replace hB := hB.below kb (Nat.le_of_lt hO.lt)
      replace hO := hO.below kb hO.lt
      replace h8 := own_keepL kb h8
      replace hb := hb.trans (kb.mono hb.size)
      clear kb
      refine hK.out _ _ hB (fun hS' => ?_)
      clear hK
      try simp only [put9T, List.set]
      generalize W.heap.size = q4 at h4 ⊢
      generalize World.alloc W _ = W2 at hB hO hb h4 h8 ⊢
      refine hFo _ _ _ _ (shr (by kernel_rfl) (by kernel_rfl) (N4_8 W2 q4 a8 n8 hB hO hb h4 h8))
    · rw [if_pos (by rfl)]
      go_simp
      have kb := (Below.refl _ W).alloc (Nat.le_refl _) (.cells #[.string k.G, .int .i64 0, .string k.H, .int .i64 1] 71)
      have h16 := HPB.new W #[.string k.G, .int .i64 0, .string k.H, .int .i64 1] 71
      replace hB := hB.below kb (Nat.le_of_lt hO.lt)
      replace hO := hO.below kb hO.lt
      replace h8 := own_keepL kb h8
      replace hb := hb.trans (kb.mono hb.size)
      clear kb
      refine hK.out _ _ hB (fun hS' => ?_)
      clear hK
      try simp only [put9T, List.set]
      generalize W.heap.size = q16 at h16 ⊢
      generalize World.alloc W _ = W2 at hB hO hb h16 h8 ⊢
      refine hFo _ _ _ _ (shr (by kernel_rfl) (by kernel_rfl) (N8_16 W2 a8 n8 q16 hB hO hb h8 h16))
    · rw [if_pos (by rfl)]
      go_simp
      have kb := (Below.refl _ W).alloc (Nat.le_refl _) (.cells #[.string l.G, .int .i64 0, .string l.H, .int .i64 2] 71)
      have h25 := HPB.new W #[.string l.G, .int .i64 0, .string l.H, .int .i64 2] 71
      replace hB := hB.below kb (Nat.le_of_lt hO.lt)
      replace hO := hO.below kb hO.lt
      replace h8 := own_keepL kb h8
      replace hb := hb.trans (kb.mono hb.size)
      clear kb
      refine hK.out _ _ hB (fun hS' => ?_)
      clear hK
      try simp only [put9T, List.set]
      generalize W.heap.size = q25 at h25 ⊢
      generalize World.alloc W _ = W2 at hB hO hb h25 h8 ⊢
      refine hFo _ _ _ _ (shr (by kernel_rfl) (by kernel_rfl) (N8_25 W2 a8 n8 q25 hB hO hb h8 h25))
  have N16 : ∀ (W : World) (q16 : Nat), BX7 W w.heap.size k l A B V R → OBX W (w.heap.size + 6) (.slice none 0 0) (.slice none 0 0) (.slice none 0 0) → Below w.heap.size w W → HPB W q16 #[.string k.G, .int .i64 0, .string k.H, .int .i64 1] 71 → F 9 #[true, true, true, true, false, true, true, true, false, true, true, true, true, true, true, true, true, false, true, true, true, true, true, true, true, false, false, false, false, false, false] ⟨⟨[.agg #[.string k.M, .string k.O, .string k.G, .string k.H], .agg #[.string l.M, .string l.O, .string l.G, .string l.H], .string A, .string B, .string V, .string R, .pointer (some ⟨w.heap.size, 0, none⟩), .pointer (some ⟨w.heap.size + 1, 0, none⟩), .pointer (some ⟨w.heap.size + 2, 0, none⟩), .pointer (some ⟨w.heap.size + 3, 0, none⟩), .pointer (some ⟨w.heap.size + 4, 0, none⟩), .pointer (some ⟨w.heap.size + 5, 0, none⟩), .pointer (some ⟨w.heap.size + 6, 0, none⟩), .int .i64 0, .int .i64 0, .func (.func 13) #[] #[.pointer (some ⟨w.heap.size, 0, none⟩), .pointer (some ⟨w.heap.size + 1, 0, none⟩), .pointer (some ⟨w.heap.size + 2, 0, none⟩), .pointer (some ⟨w.heap.size + 3, 0, none⟩), .pointer (some ⟨w.heap.size + 4, 0, none⟩), .pointer (some ⟨w.heap.size + 5, 0, none⟩)], .func (.func 16) #[] #[.pointer (some ⟨w.heap.size, 0, none⟩)], .func (.func 18) #[] #[.pointer (some ⟨w.heap.size, 0, none⟩), .pointer (some ⟨w.heap.size + 1, 0, none⟩)], .func (.func 20) #[] #[.pointer (some ⟨w.heap.size, 0, none⟩), .pointer (some ⟨w.heap.size + 2, 0, none⟩)], .func (.func 22) #[] #[.pointer (some ⟨w.heap.size + 1, 0, none⟩), .pointer (some ⟨w.heap.size + 3, 0, none⟩)], .func (.func 23) #[] #[.pointer (some ⟨w.heap.size + 4, 0, none⟩), .pointer (some ⟨w.heap.size + 5, 0, none⟩)], .slice (some ⟨w.heap.size + 7, 0, none⟩) 6 6, .int .i64 0, .int .i64 0, .bool false, undef, undef, .pointer (some ⟨w.heap.size, 0, none⟩), .agg #[.string k.M, .string k.O], .pointer (some ⟨w.heap.size + 1, 0, none⟩), .agg #[.string l.M, .string l.O], undef, .string V, .string R, .agg #[.string V, .string ⟨#[]⟩, .string R], undef, .string A, .pointer (some ⟨w.heap.size, 2, none⟩), .string k.G, .agg #[.string k.G, .int .i64 0], .pointer (some ⟨w.heap.size, 3, none⟩), .string k.H, .agg #[.string k.H, .int .i64 1], .slice (some ⟨q16, 0, none⟩) 2 2, undef, .string B, .pointer (some ⟨w.heap.size + 1, 2, none⟩), .string l.G, .agg #[.string l.G, .int .i64 0], .pointer (some ⟨w.heap.size + 1, 3, none⟩), .string l.H, .agg #[.string l.H, .int .i64 2], undef, undef, undef, undef]⟩, []⟩ W := by
    intro W q16 hB hO hb h16
    refine hFi _ _ _ _ ?_
    have hS' := hB
    refine wpAnyH_ready (rs := [4, 8, 25]) (by kernel_rfl) (by simp) ?_
    refine AllReadyH.cons rfl (fun K hK => ?_) (AllReadyH.cons rfl (fun K hK => ?_) (AllReadyH.cons rfl (fun K hK => ?_) AllReadyH.nil))
    · rw [if_pos (by rfl)]
      go_simp
      have kb := (Below.refl _ W).alloc (Nat.le_refl _) (.cells #[.string k.M, .string k.O, .string l.M, .string l.O] 26)
      have h4 := HPB.new W #[.string k.M, .string k.O, .string l.M, .string l.O] 26
      replace hB := hB.below kb (Nat.le_of_lt hO.lt)
      replace hO := hO.below kb hO.lt
      replace h16 := h16.below kb
      replace hb := hb.trans (kb.mono hb.size)
      clear kb
      refine hK.out _ _ hB (fun hS' => ?_)
      clear hK
      try simp only [put9T, List.set]
      generalize W.heap.size = q4 at h4 ⊢
      generalize World.alloc W _ = W2 at hB hO hb h4 h16 ⊢
      refine hFo _ _ _ _ (shr (by kernel_rfl) (by kernel_rfl) (N4_16 W2 q4 q16 hB hO hb h4 h16))
    · rw [if_pos (by rfl)]
      go_simp
      go_at_call 25
      refine (HV.out _).mono ?_; rintro e W2 ⟨⟨v8, rfl, h8⟩, kb⟩
      obtain ⟨a8, n8, rfl⟩ := own_sl h8
      replace hB := hB.below kb (Nat.le_of_lt hO.lt)
      replace hO := hO.below kb hO.lt
      replace h16 := h16.below kb
      replace h8 := own_weakK h8 hb.size
      replace hb := hb.trans (kb.mono hb.size)
      clear kb
      refine hK.out _ _ hB (fun hS' => ?_)
      clear hK
      try simp only [put9T, List.set]
      refine hFo _ _ _ _ (shr (by kernel_rfl) (by kernel_rfl) (N8_16 W2 a8 n8 q16 hB hO hb h8 h16))
    · rw [if_pos (by rfl)]
      go_simp
      have kb := (Below.refl _ W).alloc (Nat.le_refl _) (.cells #[.string l.G, .int .i64 0, .string l.H, .int .i64 2] 71)
      have h25 := HPB.new W #[.string l.G, .int .i64 0, .string l.H, .int .i64 2] 71
      replace hB := hB.below kb (Nat.le_of_lt hO.lt)
      replace hO := hO.below kb hO.lt
      replace h16 := h16.below kb
      replace hb := hb.trans (kb.mono hb.size)
      clear kb
      refine hK.out _ _ hB (fun hS' => ?_)
      clear hK
      try simp only [put9T, List.set]
      generalize W.heap.size = q25 at h25 ⊢
      generalize World.alloc W _ = W2 at hB hO hb h25 h16 ⊢
      refine hFo _ _ _ _ (shr (by kernel_rfl) (by kernel_rfl) (N16_25 W2 q16 q25 hB hO hb h16 h25))
  have N25 : ∀ (W : World) (q25 : Nat), BX7 W w.heap.size k l A B V R → OBX W (w.heap.size + 6) (.slice none 0 0) (.slice none 0 0) (.slice none 0 0) → Below w.heap.size w W → HPB W q25 #[.string l.G, .int .i64 0, .string l.H, .int .i64 2] 71 → F 9 #[true, true, true, true, false, true, true, true, false, true, true, true, true, true, true, true, false, false, true, true, true, true, true, true, true, true, false, false, false, false, false] ⟨⟨[.agg #[.string k.M, .string k.O, .string k.G, .string k.H], .agg #[.string l.M, .string l.O, .string l.G, .string l.H], .string A, .string B, .string V, .string R, .pointer (some ⟨w.heap.size, 0, none⟩), .pointer (some ⟨w.heap.size + 1, 0, none⟩), .pointer (some ⟨w.heap.size + 2, 0, none⟩), .pointer (some ⟨w.heap.size + 3, 0, none⟩), .pointer (some ⟨w.heap.size + 4, 0, none⟩), .pointer (some ⟨w.heap.size + 5, 0, none⟩), .pointer (some ⟨w.heap.size + 6, 0, none⟩), .int .i64 0, .int .i64 0, .func (.func 13) #[] #[.pointer (some ⟨w.heap.size, 0, none⟩), .pointer (some ⟨w.heap.size + 1, 0, none⟩), .pointer (some ⟨w.heap.size + 2, 0, none⟩), .pointer (some ⟨w.heap.size + 3, 0, none⟩), .pointer (some ⟨w.heap.size + 4, 0, none⟩), .pointer (some ⟨w.heap.size + 5, 0, none⟩)], .func (.func 16) #[] #[.pointer (some ⟨w.heap.size, 0, none⟩)], .func (.func 18) #[] #[.pointer (some ⟨w.heap.size, 0, none⟩), .pointer (some ⟨w.heap.size + 1, 0, none⟩)], .func (.func 20) #[] #[.pointer (some ⟨w.heap.size, 0, none⟩), .pointer (some ⟨w.heap.size + 2, 0, none⟩)], .func (.func 22) #[] #[.pointer (some ⟨w.heap.size + 1, 0, none⟩), .pointer (some ⟨w.heap.size + 3, 0, none⟩)], .func (.func 23) #[] #[.pointer (some ⟨w.heap.size + 4, 0, none⟩), .pointer (some ⟨w.heap.size + 5, 0, none⟩)], .slice (some ⟨w.heap.size + 7, 0, none⟩) 6 6, .int .i64 0, .int .i64 0, .bool false, undef, undef, .pointer (some ⟨w.heap.size, 0, none⟩), .agg #[.string k.M, .string k.O], .pointer (some ⟨w.heap.size + 1, 0, none⟩), .agg #[.string l.M, .string l.O], undef, .string V, .string R, .agg #[.string V, .string ⟨#[]⟩, .string R], undef, .string A, .pointer (some ⟨w.heap.size, 2, none⟩), .string k.G, .agg #[.string k.G, .int .i64 0], .pointer (some ⟨w.heap.size, 3, none⟩), .string k.H, .agg #[.string k.H, .int .i64 1], undef, undef, .string B, .pointer (some ⟨w.heap.size + 1, 2, none⟩), .string l.G, .agg #[.string l.G, .int .i64 0], .pointer (some ⟨w.heap.size + 1, 3, none⟩), .string l.H, .agg #[.string l.H, .int .i64 2], .slice (some ⟨q25, 0, none⟩) 2 2, undef, undef, undef]⟩, []⟩ W := by
    intro W q25 hB hO hb h25
    refine hFi _ _ _ _ ?_
    have hS' := hB
    refine wpAnyH_ready (rs := [4, 8, 16]) (by kernel_rfl) (by simp) ?_
    refine AllReadyH.cons rfl (fun K hK => ?_) (AllReadyH.cons rfl (fun K hK => ?_) (AllReadyH.cons rfl (fun K hK => ?_) AllReadyH.nil))
    · rw [if_pos (by rfl)]
      go_simp
      have kb := (Below.refl _ W).alloc (Nat.le_refl _) (.cells #[.string k.M, .string k.O, .string l.M, .string l.O] 26)
      have h4 := HPB.new W #[.string k.M, .string k.O, .string l.M, .string l.O] 26
      replace hB := hB.below kb (Nat.le_of_lt hO.lt)
      replace hO := hO.below kb hO.lt
      replace h25 := h25.below kb
      replace hb := hb.trans (kb.mono hb.size)
      clear kb
      refine hK.out _ _ hB (fun hS' => ?_)
      clear hK
      try simp only [put9T, List.set]
      generalize W.heap.size = q4 at h4 ⊢
      generalize World.alloc W _ = W2 at hB hO hb h4 h25 ⊢
      refine hFo _ _ _ _ (shr (by kernel_rfl) (by kernel_rfl) (N4_25 W2 q4 q25 hB hO hb h4 h25))
    · rw [if_pos (by rfl)]
      go_simp
      go_at_call 25
      refine (HV.out _).mono ?_; rintro e W2 ⟨⟨v8, rfl, h8⟩, kb⟩
      obtain ⟨a8, n8, rfl⟩ := own_sl h8
      replace hB := hB.below kb (Nat.le_of_lt hO.lt)
      replace hO := hO.below kb hO.lt
      replace h25 := h25.below kb
      replace h8 := own_weakK h8 hb.size
      replace hb := hb.trans (kb.mono hb.size)
      clear kb
      refine hK.out _ _ hB (fun hS' => ?_)
      clear hK
      try simp only [put9T, List.set]
      refine hFo _ _ _ _ (shr (by kernel_rfl) (by kernel_rfl) (N8_25 W2 a8 n8 q25 hB hO hb h8 h25))
    · rw [if_pos (by rfl)]
      go_simp
      have kb := (Below.refl _ W).alloc (Nat.le_refl _) (.cells #[.string k.G, .int .i64 0, .string k.H, .int .i64 1] 71)
      have h16 := HPB.new W #[.string k.G, .int .i64 0, .string k.H, .int .i64 1] 71
      replace hB := hB.below kb (Nat.le_of_lt hO.lt)
      replace hO := hO.below kb hO.lt
      replace h25 := h25.below kb
      replace hb := hb.trans (kb.mono hb.size)
      clear kb
      refine hK.out _ _ hB (fun hS' => ?_)
      clear hK
      try simp only [put9T, List.set]
      generalize W.heap.size = q16 at h16 ⊢
      generalize World.alloc W _ = W2 at hB hO hb h16 h25 ⊢
      refine hFo _ _ _ _ (shr (by kernel_rfl) (by kernel_rfl) (N16_25 W2 q16 q25 hB hO hb h16 h25))
  have N : ∀ (W : World), BX7 W w.heap.size k l A B V R → OBX W (w.heap.size + 6) (.slice none 0 0) (.slice none 0 0) (.slice none 0 0) → Below w.heap.size w W → F 10 #[true, true, true, true, false, true, true, true, false, true, true, true, true, true, true, true, false, false, true, true, true, true, true, true, true, false, false, false, false, false, false] ⟨⟨[.agg #[.string k.M, .string k.O, .string k.G, .string k.H], .agg #[.string l.M, .string l.O, .string l.G, .string l.H], .string A, .string B, .string V, .string R, .pointer (some ⟨w.heap.size, 0, none⟩), .pointer (some ⟨w.heap.size + 1, 0, none⟩), .pointer (some ⟨w.heap.size + 2, 0, none⟩), .pointer (some ⟨w.heap.size + 3, 0, none⟩), .pointer (some ⟨w.heap.size + 4, 0, none⟩), .pointer (some ⟨w.heap.size + 5, 0, none⟩), .pointer (some ⟨w.heap.size + 6, 0, none⟩), .int .i64 0, .int .i64 0, .func (.func 13) #[] #[.pointer (some ⟨w.heap.size, 0, none⟩), .pointer (some ⟨w.heap.size + 1, 0, none⟩), .pointer (some ⟨w.heap.size + 2, 0, none⟩), .pointer (some ⟨w.heap.size + 3, 0, none⟩), .pointer (some ⟨w.heap.size + 4, 0, none⟩), .pointer (some ⟨w.heap.size + 5, 0, none⟩)], .func (.func 16) #[] #[.pointer (some ⟨w.heap.size, 0, none⟩)], .func (.func 18) #[] #[.pointer (some ⟨w.heap.size, 0, none⟩), .pointer (some ⟨w.heap.size + 1, 0, none⟩)], .func (.func 20) #[] #[.pointer (some ⟨w.heap.size, 0, none⟩), .pointer (some ⟨w.heap.size + 2, 0, none⟩)], .func (.func 22) #[] #[.pointer (some ⟨w.heap.size + 1, 0, none⟩), .pointer (some ⟨w.heap.size + 3, 0, none⟩)], .func (.func 23) #[] #[.pointer (some ⟨w.heap.size + 4, 0, none⟩), .pointer (some ⟨w.heap.size + 5, 0, none⟩)], .slice (some ⟨w.heap.size + 7, 0, none⟩) 6 6, .int .i64 0, .int .i64 0, .bool false, undef, undef, .pointer (some ⟨w.heap.size, 0, none⟩), .agg #[.string k.M, .string k.O], .pointer (some ⟨w.heap.size + 1, 0, none⟩), .agg #[.string l.M, .string l.O], undef, .string V, .string R, .agg #[.string V, .string ⟨#[]⟩, .string R], undef, .string A, .pointer (some ⟨w.heap.size, 2, none⟩), .string k.G, .agg #[.string k.G, .int .i64 0], .pointer (some ⟨w.heap.size, 3, none⟩), .string k.H, .agg #[.string k.H, .int .i64 1], undef, undef, .string B, .pointer (some ⟨w.heap.size + 1, 2, none⟩), .string l.G, .agg #[.string l.G, .int .i64 0], .pointer (some ⟨w.heap.size + 1, 3, none⟩), .string l.H, .agg #[.string l.H, .int .i64 2], undef, undef, undef, undef]⟩, []⟩ W := by
    intro W  hB hO hb 
    refine hFi _ _ _ _ ?_
    have hS' := hB
    refine wpAnyH_ready (rs := [4, 8, 16, 25]) (by kernel_rfl) (by simp) ?_
    refine AllReadyH.cons rfl (fun K hK => ?_) (AllReadyH.cons rfl (fun K hK => ?_) (AllReadyH.cons rfl (fun K hK => ?_) (AllReadyH.cons rfl (fun K hK => ?_) AllReadyH.nil)))
    · rw [if_pos (by rfl)]
      go_simp
      have kb := (Below.refl _ W).alloc (Nat.le_refl _) (.cells #[.string k.M, .string k.O, .string l.M, .string l.O] 26)
      have h4 := HPB.new W #[.string k.M, .string k.O, .string l.M, .string l.O] 26
      replace hB := hB.below kb (Nat.le_of_lt hO.lt)
      replace hO := hO.below kb hO.lt
      replace hb := hb.trans (kb.mono hb.size)
      clear kb
      refine hK.out _ _ hB (fun hS' => ?_)
      clear hK
      try simp only [put9T, List.set]
      generalize W.heap.size = q4 at h4 ⊢
      generalize World.alloc W _ = W2 at hB hO hb h4  ⊢
      refine hFo _ _ _ _ (shr (by kernel_rfl) (by kernel_rfl) (N4 W2 q4 hB hO hb h4))
    · rw [if_pos (by rfl)]
      go_simp
      go_at_call 25
      refine (HV.out _).mono ?_; rintro e W2 ⟨⟨v8, rfl, h8⟩, kb⟩
      obtain ⟨a8, n8, rfl⟩ := own_sl h8
      replace hB := hB.below kb (Nat.le_of_lt hO.lt)
      replace hO := hO.below kb hO.lt
      replace h8 := own_weakK h8 hb.size
      replace hb := hb.trans (kb.mono hb.size)
      clear kb
      refine hK.out _ _ hB (fun hS' => ?_)
      clear hK
      try simp only [put9T, List.set]
      refine hFo _ _ _ _ (shr (by kernel_rfl) (by kernel_rfl) (N8 W2 a8 n8 hB hO hb h8))
    · rw [if_pos (by rfl)]
      go_simp
      have kb := (Below.refl _ W).alloc (Nat.le_refl _) (.cells #[.string k.G, .int .i64 0, .string k.H, .int .i64 1] 71)
      have h16 := HPB.new W #[.string k.G, .int .i64 0, .string k.H, .int .i64 1] 71
      replace hB := hB.below kb (Nat.le_of_lt hO.lt)
      replace hO := hO.below kb hO.lt
      replace hb := hb.trans (kb.mono hb.size)
      clear kb
      refine hK.out _ _ hB (fun hS' => ?_)
      clear hK
      try simp only [put9T, List.set]
      generalize W.heap.size = q16 at h16 ⊢
      generalize World.alloc W _ = W2 at hB hO hb h16  ⊢
      refine hFo _ _ _ _ (shr (by kernel_rfl) (by kernel_rfl) (N16 W2 q16 hB hO hb h16))
    · rw [if_pos (by rfl)]
      go_simp
      have kb := (Below.refl _ W).alloc (Nat.le_refl _) (.cells #[.string l.G, .int .i64 0, .string l.H, .int .i64 2] 71)
      have h25 := HPB.new W #[.string l.G, .int .i64 0, .string l.H, .int .i64 2] 71
      replace hB := hB.below kb (Nat.le_of_lt hO.lt)
      replace hO := hO.below kb hO.lt
      replace hb := hb.trans (kb.mono hb.size)
      clear kb
      refine hK.out _ _ hB (fun hS' => ?_)
      clear hK
      try simp only [put9T, List.set]
      generalize W.heap.size = q25 at h25 ⊢
      generalize World.alloc W _ = W2 at hB hO hb h25  ⊢
      refine hFo _ _ _ _ (shr (by kernel_rfl) (by kernel_rfl) (N25 W2 q25 hB hO hb h25))
  exact shr (by kernel_rfl) (by kernel_rfl) (N Y0 hB hO hb)
  -- @@R4
end Go.Proofs.YtdlbnioidfhhcaaGreat
