import Derived.Test.YtdhhbjmkdmbffaaGreatDoorLjA
import Derived.Laws.AppendOwnNone
/- The joined statement: the plain answer of both Joins, and the rows in which they build it. -/
namespace Go.Proofs.YtdhhbjmkdmbffaaGreatDoor
open Go.RowKit Num
set_option maxRecDepth 20000
set_option linter.unusedVariables false
/-- a pair of places -/
abbrev PRt := Int × Int
def prOk (n m : Nat) (p : PRt) : Bool := decide (0 ≤ p.1) && (decide (p.1 < (n : Int)) && (decide (0 ≤ p.2) && decide (p.2 < (m : Int))))
/-- the places of the shared variables; none if one is named twice -/
def twJ : List PRt → List Int → Option (List Int)
 | [], J => some J
 | p :: r, J => if 0 ≤ J.getD p.2.toNat 0 then none else twJ r (J.set p.2.toNat p.1)
def atB (V : List ByteArray) (i : Int) : ByteArray := V.getD i.toNat ⟨#[]⟩
def mnB (x y : ByteArray) : ByteArray := if nv y < nv x then y else x
/-- the bounds of the first statement's variables, with those of the shared ones; none if one is of the other kind -/
def bdV (VA VB : List ByteArray) : List PRt → List ByteArray → Option (List ByteArray)
 | [], V => some V
 | p :: r, V => if emB (atB VA p.1) = emB (atB VB p.2) then bdV VA VB r (V.set p.1.toNat (mnB (atB V p.1) (atB VB p.2))) else none
/-- the places and bounds of the other variables, from the j-th on -/
def flJ : List ByteArray → Nat → List Int → List ByteArray → List Int × List ByteArray
 | [], _, J, V => (J, V)
 | v :: r, j, J, V => if J.getD j 0 < 0 then flJ r (j + 1) (J.set j (V.length : Int)) (V ++ [v]) else flJ r (j + 1) J V
def jQ (n : Nat) (J : List Int) (q : EqP) : EqP := (q.1 + (n : Int), q.2.1, q.2.2.map (clT J))
def jnS (A B : StP) (r : List Int × List ByteArray) : StP := ⟨A.G ++ B.G, r.2, A.Q ++ B.Q.map (jQ A.G.length r.1)⟩
/-- what Join answers: an error, a statement, places -/
abbrev JRs := Int × StP × List Int
def noJ (e : Int) : JRs := (e, ⟨[], [], []⟩, [])
def endJ (r : StP × List Int) : JRs := if lckE r.1 = 0 then (0, r.1, r.2) else noJ (lckE r.1)
def vrJ (A B : StP) (P : List PRt) (J : List Int) : JRs :=
 match bdV A.V B.V P A.V with
 | none => noJ 10
 | some V => endJ (jnS A B (flJ B.V 0 J V), (flJ B.V 0 J V).1)
def plJ (A B : StP) (P : List PRt) : JRs :=
 match twJ P (List.replicate B.V.length (-1)) with
 | none => noJ 8
 | some J => vrJ A B P J
def joinR (A B : StP) (P : List PRt) : JRs :=
 if formB A = true ∧ formB B = true then
  if rstE A = 0 then
   if rstE B = 0 then if P.all (prOk A.V.length B.V.length) = true then plJ A B P else noJ 2
   else noJ (rstE B)
  else noJ (rstE A)
 else noJ 3
/-- cells of lists -/
theorem fcl_len {α : Type} (f : α → List Value) (k : Nat) (hf : ∀ x, (f x).length = k) : ∀ L : List α, (L.flatMap f).length = L.length * k
 | [] => by simp
 | x :: L => by rw [List.flatMap_cons, List.length_append, hf, fcl_len f k hf L, List.length_cons, Nat.succ_mul]; omega
theorem fcl_get {α : Type} (f : α → List Value) (k : Nat) (hf : ∀ x, (f x).length = k) : ∀ (L : List α) (i : Nat) (h : i < L.length) (j : Nat) (hj : j < k), (L.flatMap f)[i * k + j]? = (f L[i])[j]?
 | [], i, h, _, _ => by simp at h
 | x :: L, 0, _, j, hj => by
  rw [List.flatMap_cons, Nat.zero_mul, Nat.zero_add, List.getElem?_append_left (by rw [hf]; exact hj)]; rfl
 | x :: L, i + 1, h, j, hj => by
  rw [List.flatMap_cons, List.getElem?_append_right (by rw [hf, Nat.succ_mul]; omega), hf, show (i + 1) * k + j - k = i * k + j by rw [Nat.succ_mul]; omega]
  exact fcl_get f k hf L i (by simpa using h) j hj
theorem fcl_inv {α : Type} (f : α → List Value) (k : Nat) (hk : 0 < k) (hf : ∀ x, (f x).length = k) (L : List α) (j : Nat) (x : Value) (hx : (L.flatMap f)[j]? = some x) : ∃ h : j / k < L.length, (f L[j / k])[j % k]? = some x := by
 have hj := (List.getElem?_eq_some_iff.1 hx).1
 rw [fcl_len f k hf] at hj
 have h1 : j / k < L.length := Nat.div_lt_of_lt_mul (by rw [Nat.mul_comm]; exact hj)
 refine ⟨h1, ?_⟩
 rw [← fcl_get f k hf L (j / k) h1 (j % k) (Nat.mod_lt _ hk), Nat.mul_comm, Nat.div_add_mod]
 exact hx
def gcl (L : List (ByteArray × ByteArray)) : List Value := L.flatMap fun g => [.string g.1, .string g.2]
def qcl (L : List EqR) : List Value := L.flatMap fun q => [.int .i64 q.1, .string q.2.1, .slice q.2.2.1 q.2.2.2.2.length q.2.2.2.1]
theorem gcl_len (L : List (ByteArray × ByteArray)) : (gcl L).length = L.length * 2 := fcl_len _ 2 (fun _ => rfl) L
theorem qcl_len (L : List EqR) : (qcl L).length = L.length * 3 := fcl_len _ 3 (fun _ => rfl) L
theorem gcl_app (L M : List (ByteArray × ByteArray)) : gcl (L ++ M) = gcl L ++ gcl M := by simp [gcl]
theorem qcl_app (L M : List EqR) : qcl (L ++ M) = qcl L ++ qcl M := by simp [qcl]
theorem gcl_one (L : List (ByteArray × ByteArray)) : ∀ x ∈ gcl L, Value.oneCell' x = true := fun x h => by
 obtain ⟨g, _, h⟩ := List.mem_flatMap.1 h
 simp only [List.mem_cons, List.not_mem_nil, or_false] at h
 rcases h with rfl | rfl <;> rfl
theorem qcl_one (L : List EqR) : ∀ x ∈ qcl L, Value.oneCell' x = true := fun x h => by
 obtain ⟨g, _, h⟩ := List.mem_flatMap.1 h
 simp only [List.mem_cons, List.not_mem_nil, or_false] at h
 rcases h with rfl | rfl | rfl <;> rfl
theorem GSl.cellsA {w : World} {A : Addr} {L : List (ByteArray × ByteArray)} (h : GSl w (some A) L) : ∀ j x, (gcl L)[j]? = some x → w.cell? (A.add j) = some x := by
 intro j x hj
 obtain ⟨hk, hh⟩ := fcl_inv _ 2 (by omega) (fun _ => rfl) L j x hj
 obtain ⟨b, off, he, c0, c1⟩ := h (j / 2) hk
 injection he with he
 subst he
 rw [addr_addT]
 have h2 : j % 2 = 0 ∨ j % 2 = 1 := by omega
 rcases h2 with e | e
 ·
  rw [e] at hh; simp at hh; subst hh; rw [show off + j = off + j / 2 * 2 by omega]; exact c0
 ·
  rw [e] at hh; simp at hh; subst hh; rw [show off + j = off + j / 2 * 2 + 1 by omega]; exact c1
theorem QSl.cellsA {w : World} {A : Addr} {L : List EqR} (h : QSl w (some A) L) : ∀ j x, (qcl L)[j]? = some x → w.cell? (A.add j) = some x := by
 intro j x hj
 obtain ⟨hk, hh⟩ := fcl_inv _ 3 (by omega) (fun _ => rfl) L j x hj
 obtain ⟨b, off, he, c0, c1, c2, _⟩ := h (j / 3) hk
 injection he with he
 subst he
 rw [addr_addT]
 have h2 : j % 3 = 0 ∨ j % 3 = 1 ∨ j % 3 = 2 := by omega
 rcases h2 with e | e | e
 ·
  rw [e] at hh; simp at hh; subst hh; rw [show off + j = off + j / 3 * 3 by omega]; exact c0
 ·
  rw [e] at hh; simp at hh; subst hh; rw [show off + j = off + j / 3 * 3 + 1 by omega]; exact c1
 ·
  rw [e] at hh; simp at hh; subst hh; rw [show off + j = off + j / 3 * 3 + 2 by omega]; exact c2
theorem own_GSl {W : World} {K n : Nat} {e : TypeId} {v : Value} {L : List (ByteArray × ByteArray)} (h : W.ownsRow K e 2 v n (gcl L)) : ∃ ao c, v = .slice ao n c ∧ GSl W ao L := by
 have hlen : L.length = n := by have := h.1; rw [gcl_len] at this; omega
 have hh := h
 rcases h.2 with ⟨h1, h2⟩ | ⟨g, cap, cur, rfl, _⟩
 ·
  subst h2
  exact ⟨none, 0, h1, fun k hk => by omega⟩
 ·
  refine ⟨_, cap, rfl, fun k hk => ⟨g, 0, rfl, ?_, ?_⟩⟩
  ·
   have := hh.cells (g := g) rfl (k * 2) _ (by have := fcl_get (fun g : ByteArray × ByteArray => [Value.string g.1, Value.string g.2]) 2 (fun _ => rfl) L k hk 0 (by omega); exact this)
   rw [addr_add] at this
   rw [Nat.zero_add]; exact this
  ·
   have := hh.cells (g := g) rfl (k * 2 + 1) _ (by have := fcl_get (fun g : ByteArray × ByteArray => [Value.string g.1, Value.string g.2]) 2 (fun _ => rfl) L k hk 1 (by omega); exact this)
   rw [addr_add] at this
   rw [Nat.zero_add]; exact this
theorem own_QSl {W : World} {K n : Nat} {e : TypeId} {v : Value} {L : List EqR} (h : W.ownsRow K e 3 v n (qcl L)) (ht : ∀ x ∈ L, TSl W x.2.2.1 x.2.2.2.2) : ∃ ao c, v = .slice ao n c ∧ QSl W ao L := by
 have hlen : L.length = n := by have := h.1; rw [qcl_len] at this; omega
 have hh := h
 have hg := fun k hk j hj => fcl_get (fun q : EqR => [Value.int .i64 q.1, .string q.2.1, .slice q.2.2.1 q.2.2.2.2.length q.2.2.2.1]) 3 (fun _ => rfl) L k hk j hj
 rcases h.2 with ⟨h1, h2⟩ | ⟨g, cap, cur, rfl, _⟩
 ·
  subst h2
  exact ⟨none, 0, h1, fun k hk => by omega⟩
 ·
  refine ⟨_, cap, rfl, fun k hk => ⟨g, 0, rfl, ?_, ?_, ?_, ht _ (List.getElem_mem hk)⟩⟩
  ·
   have := hh.cells (g := g) rfl (k * 3) _ (hg k hk 0 (by omega))
   rw [addr_add] at this
   rw [Nat.zero_add]; exact this
  ·
   have := hh.cells (g := g) rfl (k * 3 + 1) _ (hg k hk 1 (by omega))
   rw [addr_add] at this
   rw [Nat.zero_add]; exact this
  ·
   have := hh.cells (g := g) rfl (k * 3 + 2) _ (hg k hk 2 (by omega))
   rw [addr_add] at this
   rw [Nat.zero_add]; exact this
/-- a store into a row of our own with cells of one value -/
theorem own_set1 {W : World} {K n g c i : Nat} {e : TypeId} {x : Value} {xs : List Value} (h : W.ownsRow K e 1 (.slice (some ⟨g, 0, none⟩) n c) n xs) : (W.setCell ⟨g, i, none⟩ x).ownsRow K e 1 (.slice (some ⟨g, 0, none⟩) n c) n (xs.set i x) := by
 obtain ⟨h0, h⟩ := h
 refine ⟨by rw [List.length_set]; exact h0, ?_⟩
 rcases h with ⟨h, _⟩ | ⟨g', cap, cur, h1, h2, h3, h4, h5, h6, h7⟩
 ·
  cases h
 ·
  injection h1 with h1 _ h1'
  injection h1 with h1
  injection h1 with h1 _ _
  subst h1 h1'
  refine .inr ⟨g, c, cur.setIfInBounds i x, rfl, h2, ?_, h4, h5, by rw [Array.size_setIfInBounds]; exact h6, ?_⟩
  ·
   simp only [World.setCell, Array.getElem?_modify, if_true, h3, Option.map_some]
   simp
  ·
   rw [Array.toList_setIfInBounds, List.take_set, h7]
/-- blocks of another type, or below K, stay -/
def Chg (w w' : World) (r : Option Nat) : Prop := ∀ k, k < w.heap.size → some k ≠ r → w'.heap[k]? = w.heap[k]?
def TyR (w : World) (K : Nat) (r : Option Nat) (t : TypeId) : Prop := ∀ c, r = some c → K ≤ c ∧ ∃ cur, w.heap[c]? = some (.cells cur t (0, 0))
theorem Chg.grown {w w' : World} {r : Option Nat} (h : w.grownBy w' r) : Chg w w' r := h.block
theorem Chg.below {w w' : World} (h : Below w.heap.size w w') (r : Option Nat) : Chg w w' r := fun k hk _ => h.block k hk
theorem Chg.set (w : World) (a : Addr) (v : Value) : Chg w (w.setCell a v) (some a.block) := fun k hk hne => Below.heap_setCell w a v k (fun e => hne (by rw [e]))
section
variable {w w' : World} {K : Nat} {r : Option Nat} {t : TypeId}
theorem Chg.heap (h : Chg w w' r) (ht : TyR w K r t) {b : Nat} {cur : Array Value} {t' : TypeId} {f : Nat × Nat} (hb : w.heap[b]? = some (.cells cur t' f)) (hne : t' ≠ t) : w'.heap[b]? = some (.cells cur t' f) := by
 rw [h b (Array.getElem?_eq_some_iff.1 hb).1 (fun e => by
  obtain ⟨_, cur', h2⟩ := ht b e.symm
  rw [hb] at h2
  injection h2 with h2
  injection h2 with _ h2 _
  exact hne h2)]
 exact hb
theorem Chg.old (h : Chg w w' r) (ht : TyR w K r t) {b : Nat} (hb : b < K) (hw : b < w.heap.size) : w'.heap[b]? = w.heap[b]? := h b hw (fun e => by have := (ht b e.symm).1; omega)
theorem Chg.own (h : Chg w w' r) (ht : TyR w K r t) {K' e size n : Nat} {v : Value} {xs : List Value} (ho : w.ownsRow K' e size v n xs) (hne : e ≠ t) : w'.ownsRow K' e size v n xs := by
 rcases ho with ⟨h0, ho | ⟨g, cap, cur, a1, a2, a3, a4⟩⟩
 ·
  exact ⟨h0, .inl ho⟩
 ·
  exact ⟨h0, .inr ⟨g, cap, cur, a1, a2, h.heap ht a3 hne, a4⟩⟩
/-- terms that lie below K, or in a block of terms -/
def TmAt (w : World) (K : Nat) (ao : Option Addr) (L : List TmR) : Prop := TSl w ao L ∧ ∀ b off, 0 < L.length → ao = some ⟨b, off, none⟩ → b < K ∨ ∃ cur, w.heap[b]? = some (.cells cur 43 (0, 0))
theorem TmAt.chg {ao : Option Addr} {L : List TmR} (hT : TmAt w K ao L) (h : Chg w w' r) (ht : TyR w K r t) (hne : 43 ≠ t) : TmAt w' K ao L := by
 have hk : ∀ k (_ : k < L.length) b off, ao = some ⟨b, off, none⟩ → ∀ o v, w.cell? ⟨b, o, none⟩ = some v → w'.cell? ⟨b, o, none⟩ = some v := fun k hk0 b off he o v hc => by
  have hl := World.block_lt_of_cell? w _ hc
  rw [← hc]
  refine World.cell?_of_block ?_
  rcases hT.2 b off (by omega) he with hb | ⟨cur, hb⟩
  ·
   exact h.old ht hb hl
  ·
   rw [show w'.heap[(⟨b, o, none⟩ : Addr).block]? = _ from h.heap ht hb hne]; exact hb.symm
 refine ⟨fun k hk' => ?_, fun b off h0 he => ?_⟩
 ·
  obtain ⟨b, off, he, c0, c1, c2, c3⟩ := hT.1 k hk'
  exact ⟨b, off, he, hk k hk' b off he _ _ c0, hk k hk' b off he _ _ c1, hk k hk' b off he _ _ c2, hk k hk' b off he _ _ c3⟩
 ·
  rcases hT.2 b off h0 he with hb | ⟨cur, hb⟩
  ·
   exact .inl hb
  ·
   exact .inr ⟨cur, h.heap ht hb hne⟩
end
/-- the statement under construction, in a variable -/
def OB (w : World) (p : Nat) (a b c : Value) : Prop := w.heap[p]? = some (.cells #[a, b, c] 49 (0, 0))
theorem OB.lt {w : World} {p : Nat} {a b c : Value} (h : OB w p a b c) : p < w.heap.size := (Array.getElem?_eq_some_iff.1 h).1
theorem OB.c0 {w : World} {p : Nat} {a b c : Value} (h : OB w p a b c) : w.cell? ⟨p, 0, none⟩ = some a := by rw [Lib.cell_of_heap h]; rfl
theorem OB.c1 {w : World} {p : Nat} {a b c : Value} (h : OB w p a b c) : w.cell? ⟨p, 1, none⟩ = some b := by rw [Lib.cell_of_heap h]; rfl
theorem OB.c2 {w : World} {p : Nat} {a b c : Value} (h : OB w p a b c) : w.cell? ⟨p, 2, none⟩ = some c := by rw [Lib.cell_of_heap h]; rfl
theorem OB.f {w : World} {p : Nat} {a b c : Value} (h : OB w p a b c) (i : Nat) : w.frozen? ⟨p, i, none⟩ = false := Lib.frozen_of_heap h i
theorem OB.below {w w' : World} {K p : Nat} {a b c : Value} (h : OB w p a b c) (hb : Below K w w') (hK : p < K) : OB w' p a b c := (hb.block p hK).trans h
theorem OB.new (w : World) (a b c : Value) : OB (w.alloc (.cells #[a, b, c] 49)) w.heap.size a b c := heap_alloc_new w _
theorem OB.set0 {w : World} {p : Nat} {a b c : Value} (h : OB w p a b c) (x : Value) : OB (w.setCell ⟨p, 0, none⟩ x) p x b c := put1 h
theorem OB.set1 {w : World} {p : Nat} {a b c : Value} (h : OB w p a b c) (x : Value) : OB (w.setCell ⟨p, 1, none⟩ x) p a x c := put1 h
theorem OB.set2 {w : World} {p : Nat} {a b c : Value} (h : OB w p a b c) (x : Value) : OB (w.setCell ⟨p, 2, none⟩ x) p a b x := put1 h
/-- the rows of groups, variables, equations; and the places -/
structure JS (K0 K : Nat) (w : World) (p : Nat) (a b c gv vv qv : Value) (G : List (ByteArray × ByteArray)) (V : List ByteArray) (Q : List EqR) (ib : Nat) (J : List Int) : Prop where
 kk : K0 ≤ K
 kp : K ≤ p
 ki : K ≤ ib
 o : OB w p a b c
 g : w.ownsRow K 27 2 gv G.length (gcl G)
 v : w.ownsRow K 40 1 vv V.length (V.map Value.string)
 q : w.ownsRow K 46 3 qv Q.length (qcl Q)
 t : ∀ x ∈ Q, TmAt w K0 x.2.2.1 x.2.2.2.2
 i : Arr w ib 3 .i64 J.length (fun k => J.getD k 0)
section
variable {K0 K : Nat} {w w' : World} {p ib : Nat} {a b c gv vv qv : Value} {G : List (ByteArray × ByteArray)} {V : List ByteArray} {Q : List EqR} {J : List Int}
theorem TyR.mono {w : World} {K K' : Nat} {r : Option Nat} {t : TypeId} (h : TyR w K r t) (hk : K' ≤ K) : TyR w K' r t := fun c e => ⟨Nat.le_trans hk (h c e).1, (h c e).2⟩
theorem TyR.none {w : World} {K : Nat} {t : TypeId} : TyR w K none t := fun _ h => by cases h
theorem JS.tyO (h : JS K0 K w p a b c gv vv qv G V Q ib J) : TyR w K (some p) 49 := fun _ e => by injection e with e; subst e; exact ⟨h.kp, _, h.o⟩
theorem JS.tyI (h : JS K0 K w p a b c gv vv qv G V Q ib J) : TyR w K (some ib) 3 := fun _ e => by injection e with e; subst e; exact ⟨h.ki, _, h.i⟩
theorem JS.tyG (h : JS K0 K w p a b c gv vv qv G V Q ib J) : TyR w K gv.ownBlock 27 := own_ge h.g
theorem JS.tyV (h : JS K0 K w p a b c gv vv qv G V Q ib J) : TyR w K vv.ownBlock 40 := own_ge h.v
theorem JS.tyQ (h : JS K0 K w p a b c gv vv qv G V Q ib J) : TyR w K qv.ownBlock 46 := own_ge h.q
theorem JS.below (h : JS K0 K w p a b c gv vv qv G V Q ib J) (hb : Below w.heap.size w w') : JS K0 K w' p a b c gv vv qv G V Q ib J :=
 ⟨h.kk, h.kp, h.ki, (hb.block p h.o.lt).trans h.o, own_keepL hb h.g, own_keepL hb h.v, own_keepL hb h.q, fun x hx => (h.t x hx).chg (Chg.below hb none) (TyR.none (t := 3)) (by decide), (hb.block ib h.i.lt).trans h.i⟩
theorem JS.alloc (h : JS K0 K w p a b c gv vv qv G V Q ib J) (o : Obj) : JS K0 K (w.alloc o) p a b c gv vv qv G V Q ib J := h.below ((Below.refl _ w).alloc (Nat.le_refl _) o)
theorem JS.drew (h : JS K0 K w p a b c gv vv qv G V Q ib J) : JS K0 K w.drew p a b c gv vv qv G V Q ib J := h.below ((Below.refl _ w).drew)
theorem JS.appG (h : JS K0 K w p a b c gv vv qv G V Q ib J) {v' : Value} {n : Nat} {xs : List (ByteArray × ByteArray)} (hg : w.grownBy w' gv.ownBlock) (ho : w'.ownsRow K 27 2 v' n (gcl G ++ gcl xs)) : JS K0 K w' p a b c v' vv qv (G ++ xs) V Q ib J := by
 have hc := Chg.grown hg
 have ht := h.tyG
 have hn : n = (G ++ xs).length := by have := ho.1; rw [← gcl_app, gcl_len] at this; omega
 subst hn
 exact ⟨h.kk, h.kp, h.ki, hc.heap ht h.o (by decide), by rw [gcl_app]; exact ho, hc.own ht h.v (by decide), hc.own ht h.q (by decide), fun x hx => (h.t x hx).chg hc (ht.mono h.kk) (by decide), hc.heap ht h.i (by decide)⟩
theorem JS.appV (h : JS K0 K w p a b c gv vv qv G V Q ib J) {v' : Value} {n : Nat} {xs : List ByteArray} (hg : w.grownBy w' vv.ownBlock) (ho : w'.ownsRow K 40 1 v' n (V.map Value.string ++ xs.map Value.string)) : JS K0 K w' p a b c gv v' qv G (V ++ xs) Q ib J := by
 have hc := Chg.grown hg
 have ht := h.tyV
 have hn : n = (V ++ xs).length := by have := ho.1; rw [← List.map_append, List.length_map] at this; omega
 subst hn
 exact ⟨h.kk, h.kp, h.ki, hc.heap ht h.o (by decide), hc.own ht h.g (by decide), by rw [List.map_append]; exact ho, hc.own ht h.q (by decide), fun x hx => (h.t x hx).chg hc (ht.mono h.kk) (by decide), hc.heap ht h.i (by decide)⟩
theorem JS.appQ (h : JS K0 K w p a b c gv vv qv G V Q ib J) {v' : Value} {n : Nat} {xs : List EqR} (hg : w.grownBy w' qv.ownBlock) (ho : w'.ownsRow K 46 3 v' n (qcl Q ++ qcl xs)) (hx : ∀ x ∈ xs, TmAt w K0 x.2.2.1 x.2.2.2.2) : JS K0 K w' p a b c gv vv v' G V (Q ++ xs) ib J := by
 have hc := Chg.grown hg
 have ht := h.tyQ
 have hn : n = (Q ++ xs).length := by have := ho.1; rw [← qcl_app, qcl_len] at this; omega
 subst hn
 exact ⟨h.kk, h.kp, h.ki, hc.heap ht h.o (by decide), hc.own ht h.g (by decide), hc.own ht h.v (by decide), by rw [qcl_app]; exact ho, fun x hm => by
  rcases List.mem_append.1 hm with hm | hm
  ·
   exact (h.t x hm).chg hc (ht.mono h.kk) (by decide)
  ·
   exact (hx x hm).chg hc (ht.mono h.kk) (by decide), hc.heap ht h.i (by decide)⟩
theorem JS.setO (h : JS K0 K w p a b c gv vv qv G V Q ib J) {a' b' c' : Value} {j : Nat} {x : Value} (ho : OB (w.setCell ⟨p, j, none⟩ x) p a' b' c') : JS K0 K (w.setCell ⟨p, j, none⟩ x) p a' b' c' gv vv qv G V Q ib J := by
 have hc := Chg.set w ⟨p, j, none⟩ x
 have ht := h.tyO
 exact ⟨h.kk, h.kp, h.ki, ho, hc.own ht h.g (by decide), hc.own ht h.v (by decide), hc.own ht h.q (by decide), fun x hx => (h.t x hx).chg hc (ht.mono h.kk) (by decide), hc.heap ht h.i (by decide)⟩
theorem JS.set0 (h : JS K0 K w p a b c gv vv qv G V Q ib J) (x : Value) : JS K0 K (w.setCell ⟨p, 0, none⟩ x) p x b c gv vv qv G V Q ib J := h.setO (h.o.set0 x)
theorem JS.set1 (h : JS K0 K w p a b c gv vv qv G V Q ib J) (x : Value) : JS K0 K (w.setCell ⟨p, 1, none⟩ x) p a x c gv vv qv G V Q ib J := h.setO (h.o.set1 x)
theorem JS.set2 (h : JS K0 K w p a b c gv vv qv G V Q ib J) (x : Value) : JS K0 K (w.setCell ⟨p, 2, none⟩ x) p a b x gv vv qv G V Q ib J := h.setO (h.o.set2 x)
theorem JS.setJ (h : JS K0 K w p a b c gv vv qv G V Q ib J) {j : Nat} (hj : j < J.length) (x : Int) : JS K0 K (w.setCell ⟨ib, j, none⟩ (.int .i64 x)) p a b c gv vv qv G V Q ib (J.set j x) := by
 have hc := Chg.set w ⟨ib, j, none⟩ (.int .i64 x)
 have ht := h.tyI
 refine ⟨h.kk, h.kp, h.ki, hc.heap ht h.o (by decide), hc.own ht h.g (by decide), hc.own ht h.v (by decide), hc.own ht h.q (by decide), fun x hx => (h.t x hx).chg hc (ht.mono h.kk) (by decide), ?_⟩
 rw [List.length_set]
 refine (h.i.set j x).congr fun i hi => ?_
 unfold upd
 by_cases e : i = j
 ·
  subst e; simp [List.getD_eq_getElem?_getD, hi]
 ·
  have e' : j ≠ i := fun h => e h.symm
  simp [e, List.getD_eq_getElem?_getD, List.getElem?_set_ne e']
theorem JS.setV {g n cc : Nat} (h : JS K0 K w p a b c gv (.slice (some ⟨g, 0, none⟩) n cc) qv G V Q ib J) (j : Nat) (x : ByteArray) : JS K0 K (w.setCell ⟨g, j, none⟩ (.string x)) p a b c gv (.slice (some ⟨g, 0, none⟩) n cc) qv G (V.set j x) Q ib J := by
 have hc := Chg.set w ⟨g, j, none⟩ (.string x)
 have ht := h.tyV
 obtain rfl : n = V.length := by
  have := h.v.1
  rcases h.v.2 with ⟨e, _⟩ | ⟨g', cap, cur, e, _⟩
  ·
   cases e
  ·
   injection e with _ e _
 refine ⟨h.kk, h.kp, h.ki, hc.heap ht h.o (by decide), hc.own ht h.g (by decide), ?_, hc.own ht h.q (by decide), fun x hx => (h.t x hx).chg hc (ht.mono h.kk) (by decide), hc.heap ht h.i (by decide)⟩
 rw [List.length_set, List.map_set]
 exact own_set1 h.v
theorem JS.cellV {g n cc : Nat} (h : JS K0 K w p a b c gv (.slice (some ⟨g, 0, none⟩) n cc) qv G V Q ib J) {j : Nat} (hj : j < V.length) : w.cell? ⟨g, j, none⟩ = some (.string V[j]) := by
 have := h.v.cells (g := g) rfl j (.string V[j]) (by simp [hj])
 rw [addr_add] at this
 exact this
theorem JS.frzV {g n cc : Nat} (h : JS K0 K w p a b c gv (.slice (some ⟨g, 0, none⟩) n cc) qv G V Q ib J) (j : Nat) : w.frozen? ⟨g, j, none⟩ = false := by
 obtain ⟨_, cur, h2⟩ := h.tyV g rfl
 exact Lib.frozen_of_heap h2 j
theorem JS.geV {g n cc : Nat} (h : JS K0 K w p a b c gv (.slice (some ⟨g, 0, none⟩) n cc) qv G V Q ib J) : K ≤ g := (h.tyV g rfl).1
theorem JS.vlen (h : JS K0 K w p a b c gv vv qv G V Q ib J) : ∃ ao cc, vv = .slice ao V.length cc ∧ (0 < V.length → ∃ g, ao = some ⟨g, 0, none⟩) := by
 rcases h.v.2 with ⟨e, h0⟩ | ⟨g', cap, cur, e, _⟩
 ·
  exact ⟨none, 0, by rw [h0]; exact e, fun h => by omega⟩
 ·
  exact ⟨_, cap, e, fun _ => ⟨g', rfl⟩⟩
theorem JS.cellJ (h : JS K0 K w p a b c gv vv qv G V Q ib J) {j : Nat} (hj : j < J.length) : w.cell? ⟨ib, j, none⟩ = some (.int .i64 (J.getD j 0)) := h.i.cell hj
theorem JS.frzJ (h : JS K0 K w p a b c gv vv qv G V Q ib J) (j : Nat) : w.frozen? ⟨ib, j, none⟩ = false := h.i.free j
theorem JS.LI (h : JS K0 K w p a b c gv vv qv G V Q ib J) : LI w (some ⟨ib, 0, none⟩) J := fun k hk => by
 refine ⟨ib, 0, rfl, ?_⟩
 rw [Nat.zero_add, h.cellJ hk]
 simp [List.getD_eq_getElem?_getD, hk]
/-- a store into another statement's variable -/
theorem JS.setR (h : JS K0 K w p a b c gv vv qv G V Q ib J) {r j : Nat} {x : Value} (hr : K0 ≤ r) (hrp : r ≠ p) {cs : Array Value} (ho : w.heap[r]? = some (.cells cs 49 (0, 0))) : JS K0 K (w.setCell ⟨r, j, none⟩ x) p a b c gv vv qv G V Q ib J := by
 have hc : Chg w (w.setCell ⟨r, j, none⟩ x) (some r) := Chg.set w ⟨r, j, none⟩ x
 have ht : TyR w K0 (some r) 49 := fun _ e => by injection e with e; subst e; exact ⟨hr, _, ho⟩
 exact ⟨h.kk, h.kp, h.ki, (Below.heap_setCell w ⟨r, j, none⟩ x p (Ne.symm hrp)).trans h.o, hc.own ht h.g (by decide), hc.own ht h.v (by decide), hc.own ht h.q (by decide), fun x hx => (h.t x hx).chg hc ht (by decide), hc.heap ht h.i (by decide)⟩
/-- the statement that is built -/
theorem JS.SS (h : JS K0 K w p a b c gv vv qv G V Q ib J) : ∃ s : StA, gv = .slice s.ga G.length s.gc ∧ vv = .slice s.va V.length s.vc ∧ qv = .slice s.qa Q.length s.qc ∧ SS w s ⟨G, V, Q⟩ := by
 obtain ⟨ga, gc, hg, g1⟩ := own_GSl h.g
 obtain ⟨va, vc, hv, v1⟩ := own_NS h.v
 obtain ⟨qa, qc, hq, q1⟩ := own_QSl h.q (fun x hx => (h.t x hx).1)
 exact ⟨⟨ga, gc, va, vc, qa, qc⟩, hg, hv, hq, ⟨g1, v1, q1⟩⟩
end
end Go.Proofs.YtdhhbjmkdmbffaaGreatDoor

/- The joined statement: plain facts. -/
namespace Go.Proofs.YtdhhbjmkdmbffaaGreatDoor
open Go.RowKit Num
set_option maxRecDepth 20000
set_option linter.unusedVariables false
section
variable {A B : StP} {P : List PRt}
theorem joinR_form (h : ¬ (formB A = true ∧ formB B = true)) : joinR A B P = noJ 3 := by unfold joinR; rw [if_neg h]
theorem joinR_a (h : formB A = true ∧ formB B = true) (h1 : rstE A ≠ 0) : joinR A B P = noJ (rstE A) := by unfold joinR; rw [if_pos h, if_neg h1]
theorem joinR_b (h : formB A = true ∧ formB B = true) (h1 : rstE A = 0) (h2 : rstE B ≠ 0) : joinR A B P = noJ (rstE B) := by unfold joinR; rw [if_pos h, if_pos h1, if_neg h2]
theorem joinR_rng (h : formB A = true ∧ formB B = true) (h1 : rstE A = 0) (h2 : rstE B = 0) (h3 : P.all (prOk A.V.length B.V.length) = false) : joinR A B P = noJ 2 := by
 unfold joinR; rw [if_pos h, if_pos h1, if_pos h2, if_neg (by rw [h3]; decide)]
theorem joinR_pl (h : formB A = true ∧ formB B = true) (h1 : rstE A = 0) (h2 : rstE B = 0) (h3 : P.all (prOk A.V.length B.V.length) = true) : joinR A B P = plJ A B P := by
 unfold joinR; rw [if_pos h, if_pos h1, if_pos h2, if_pos h3]
theorem plJ_none (h : twJ P (List.replicate B.V.length (-1)) = none) : plJ A B P = noJ 8 := by unfold plJ; rw [h]
theorem plJ_some {J : List Int} (h : twJ P (List.replicate B.V.length (-1)) = some J) : plJ A B P = vrJ A B P J := by unfold plJ; rw [h]
theorem vrJ_none {J : List Int} (h : bdV A.V B.V P A.V = none) : vrJ A B P J = noJ 10 := by unfold vrJ; rw [h]
theorem vrJ_some {J : List Int} {V : List ByteArray} (h : bdV A.V B.V P A.V = some V) : vrJ A B P J = endJ (jnS A B (flJ B.V 0 J V), (flJ B.V 0 J V).1) := by unfold vrJ; rw [h]
theorem endJ_ok {r : StP × List Int} (h : lckE r.1 = 0) : endJ r = (0, r.1, r.2) := by unfold endJ; rw [if_pos h]
theorem endJ_no {r : StP × List Int} (h : lckE r.1 ≠ 0) : endJ r = noJ (lckE r.1) := by unfold endJ; rw [if_neg h]
theorem lck_of (h : formB A = true) : lckE A = rstE A := by unfold lckE; rw [if_pos h]
end
theorem prOk_iff {n m : Nat} {p : PRt} : prOk n m p = true ↔ 0 ≤ p.1 ∧ p.1 < (n : Int) ∧ 0 ≤ p.2 ∧ p.2 < (m : Int) := by
 unfold prOk; simp only [Bool.and_eq_true, decide_eq_true_eq]
theorem getD_set_int (J : List Int) (i j : Nat) (x : Int) (h : i < J.length) : (J.set i x).getD j 0 = if i = j then x else J.getD j 0 := by
 simp only [List.getD_eq_getElem?_getD, List.getElem?_set]
 split
 ·
  subst_vars; simp
 ·
  rfl
/-- places that are -1 or below n -/
def JOk (n : Nat) (J : List Int) : Prop := ∀ i, i < J.length → -1 ≤ J.getD i 0 ∧ J.getD i 0 < (n : Int)
theorem JOk.rep (n m : Nat) : JOk n (List.replicate m (-1)) := fun i hi => by
 rw [List.length_replicate] at hi
 simp [List.getD_eq_getElem?_getD, hi]; omega
theorem JOk.set {n : Nat} {J : List Int} (h : JOk n J) {j : Nat} {x : Int} (hx : 0 ≤ x) (hn : x < (n : Int)) : JOk n (J.set j x) := fun i hi => by
 rw [List.length_set] at hi
 by_cases hj : j < J.length
 ·
  rw [getD_set_int _ _ _ _ hj]
  split
  ·
   omega
  ·
   exact h i hi
 ·
  rw [List.set_eq_of_length_le (by omega)]; exact h i hi
theorem twJ_ok {n m : Nat} : ∀ (P : List PRt) (J J' : List Int), P.all (prOk n m) = true → J.length = m → JOk n J → twJ P J = some J' → J'.length = m ∧ JOk n J'
 | [], J, J', _, hl, hJ, h => by injection h with h; subst h; exact ⟨hl, hJ⟩
 | p :: r, J, J', hp, hl, hJ, h => by
  rw [List.all_cons, Bool.and_eq_true] at hp
  have h0 := prOk_iff.1 hp.1
  unfold twJ at h
  split at h
  ·
   cases h
  ·
   exact twJ_ok r _ J' hp.2 (by rw [List.length_set]; exact hl) (hJ.set h0.1 h0.2.1) h
theorem mnB_or (x y : ByteArray) : mnB x y = x ∨ mnB x y = y := by unfold mnB; split <;> simp
theorem atB_eq {V : List ByteArray} {i : Nat} (h : i < V.length) : atB V (i : Int) = V[i] := by unfold atB; simp [List.getD_eq_getElem?_getD, h]
theorem atB_mem {V : List ByteArray} {i : Int} (h0 : 0 ≤ i) (h : i < (V.length : Int)) : atB V i ∈ V := by
 obtain ⟨j, rfl⟩ := Int.eq_ofNat_of_zero_le h0
 rw [atB_eq (by omega)]; exact List.getElem_mem _
theorem bdV_ok {VA VB : List ByteArray} : ∀ (P : List PRt) (V V' : List ByteArray), P.all (prOk V.length VB.length) = true → bdV VA VB P V = some V' → V'.length = V.length ∧ ∀ x ∈ V', x ∈ V ∨ x ∈ VB
 | [], V, V', _, h => by injection h with h; subst h; exact ⟨rfl, fun x hx => .inl hx⟩
 | p :: r, V, V', hp, h => by
  rw [List.all_cons, Bool.and_eq_true] at hp
  have h0 := prOk_iff.1 hp.1
  unfold bdV at h
  split at h
  ·
   obtain ⟨g1, g2⟩ := bdV_ok r _ V' (by rw [List.length_set]; exact hp.2) h
   rw [List.length_set] at g1
   refine ⟨g1, fun x hx => ?_⟩
   rcases g2 x hx with g | g
   ·
    rcases List.mem_or_eq_of_mem_set g with g | g
    ·
     exact .inl g
    ·
     rcases mnB_or (atB V p.1) (atB VB p.2) with e | e
     ·
      rw [g, e]; exact .inl (atB_mem h0.1 h0.2.1)
     ·
      rw [g, e]; exact .inr (atB_mem h0.2.2.1 h0.2.2.2)
   ·
    exact .inr g
  ·
   cases h
theorem flJ_ok : ∀ (R : List ByteArray) (j : Nat) (J : List Int) (V : List ByteArray), j + R.length = J.length → (∀ i, i < j → 0 ≤ J.getD i 0) → JOk V.length J →
  (flJ R j J V).1.length = J.length ∧ V.length ≤ (flJ R j J V).2.length ∧ (flJ R j J V).2.length ≤ V.length + R.length ∧ (∀ i, i < J.length → 0 ≤ (flJ R j J V).1.getD i 0 ∧ (flJ R j J V).1.getD i 0 < ((flJ R j J V).2.length : Int)) ∧ ∀ x ∈ (flJ R j J V).2, x ∈ V ∨ x ∈ R
 | [], j, J, V, hl, hz, hJ => by
  simp only [List.length_nil, Nat.add_zero] at hl
  refine ⟨rfl, Nat.le_refl _, by simp [flJ], fun i hi => ⟨hz i (by omega), (hJ i hi).2⟩, fun x hx => .inl hx⟩
 | v :: r, j, J, V, hl, hz, hJ => by
  rw [List.length_cons] at hl
  have hj : j < J.length := by omega
  unfold flJ
  split
  ·
   have hJ' : JOk (V ++ [v]).length (J.set j (V.length : Int)) := by
    have h1 : JOk (V ++ [v]).length J := fun i hi => by have := hJ i hi; rw [List.length_append, List.length_singleton]; omega
    exact h1.set (by omega) (by rw [List.length_append, List.length_singleton]; omega)
   obtain ⟨g1, g2, g3, g4, g5⟩ := flJ_ok r (j + 1) (J.set j (V.length : Int)) (V ++ [v]) (by rw [List.length_set]; omega) (fun i hi => by
    rw [getD_set_int _ _ _ _ hj]
    split
    ·
     omega
    ·
     exact hz i (by omega)) hJ'
   rw [List.length_set] at g1 g4
   rw [List.length_append, List.length_singleton] at g2 g3
   refine ⟨g1, by omega, by rw [List.length_cons]; omega, g4, fun x hx => ?_⟩
   rcases g5 x hx with g | g
   ·
    rcases List.mem_append.1 g with g | g
    ·
     exact .inl g
    ·
     exact .inr (by rw [List.mem_singleton] at g; rw [g]; exact List.mem_cons_self)
   ·
    exact .inr (List.mem_cons_of_mem _ g)
  ·
   rename_i hneg
   obtain ⟨g1, g2, g3, g4, g5⟩ := flJ_ok r (j + 1) J V (by omega) (fun i hi => by
    by_cases e : i = j
    ·
     subst e; omega
    ·
     exact hz i (by omega)) hJ
   refine ⟨g1, g2, by rw [List.length_cons]; omega, g4, fun x hx => ?_⟩
   rcases g5 x hx with g | g
   ·
    exact .inl g
   ·
    exact .inr (List.mem_cons_of_mem _ g)
/-- sizes of a statement alone -/
def EqPok (q : EqP) : Prop := (Lit.int .i64 q.1).wf = true ∧ q.2.1.size ≤ maxLen ∧ q.2.2.length ≤ maxLen ∧ ∀ t ∈ q.2.2, TmR.ok t
structure StPok (S : StP) : Prop where
 gl : S.G.length ≤ maxLen
 vl : S.V.length ≤ maxLen
 ql : S.Q.length ≤ maxLen
 g : ∀ x ∈ S.G, x.1.size ≤ maxLen ∧ x.2.size ≤ maxLen
 v : ∀ x ∈ S.V, x.size ≤ maxLen
 q : ∀ x ∈ S.Q, EqPok x
theorem StM.ok_of {S : StM} (h : StPok S.pl) : S.ok :=
 ⟨h.gl, h.vl, by have := h.ql; unfold StM.pl at this; simpa using this, h.g, h.v, fun x hx => h.q (eqp x) (List.mem_map_of_mem hx)⟩
theorem StM.ok_pl {S : StM} (h : S.ok) : StPok S.pl :=
 ⟨h.gl, h.vl, by unfold StM.pl; simpa using h.ql, h.g, h.v, fun x hx => by obtain ⟨y, hy, rfl⟩ := List.mem_map.1 hx; exact h.q y hy⟩
theorem wf64 {x : Int} (h0 : 0 ≤ x) (h : x < 1000) : (Lit.int .i64 x).wf = true := by
 have h1 : IntKind.i64.min = -9223372036854775808 := by decide
 have h2 : IntKind.i64.max = 9223372036854775807 := by decide
 simp [Lit.wf, h1]
 omega
/-- the sizes of a statement with few parts -/
structure FewS (S : StP) : Prop where
 g : S.G.length ≤ 8
 v : S.V.length ≤ 64
 q : S.Q.length ≤ 64
 t : ∀ q ∈ S.Q, q.2.2.length ≤ 64
theorem fewS_of {S : StP} (h : rstE S = 0) : FewS S := by
 have hm : manyB S = false := by
  unfold rstE at h
  cases e : manyB S
  ·
   rfl
  ·
   rw [if_pos e] at h; omega
 unfold manyB at hm
 simp only [Bool.or_eq_false_iff, decide_eq_false_iff_not, List.any_eq_false] at hm
 refine ⟨by omega, by omega, by omega, fun q hq => ?_⟩
 have := hm.2.2.2 q hq
 unfold lgQ at this
 rw [decide_eq_true_eq] at this
 omega
theorem jnS_ok {A B : StP} {r : List Int × List ByteArray} (hA : StPok A) (hB : StPok B) (fA : FewS A) (fB : FewS B) (hf : formB B = true) (hr1 : r.1.length = B.V.length) (hr2 : r.2.length ≤ 128) (hr3 : ∀ i, i < B.V.length → 0 ≤ r.1.getD i 0 ∧ r.1.getD i 0 < (r.2.length : Int)) (hr4 : ∀ x ∈ r.2, x ∈ A.V ∨ x ∈ B.V) : StPok (jnS A B r) := by
 have a1 := fA.g; have a2 := fA.v; have a3 := fA.q; have b1 := fB.g; have b2 := fB.v; have b3 := fB.q
 refine ⟨?_, ?_, ?_, fun x hx => ?_, fun x hx => ?_, fun x hx => ?_⟩
 ·
  show (A.G ++ B.G).length ≤ maxLen
  rw [List.length_append]; unfold maxLen; omega
 ·
  show r.2.length ≤ maxLen
  unfold maxLen; omega
 ·
  show (A.Q ++ B.Q.map _).length ≤ maxLen
  rw [List.length_append, List.length_map]; unfold maxLen; omega
 ·
  rcases List.mem_append.1 (show x ∈ A.G ++ B.G from hx) with h | h
  ·
   exact hA.g x h
  ·
   exact hB.g x h
 ·
  rcases hr4 x hx with h | h
  ·
   exact hA.v x h
  ·
   exact hB.v x h
 ·
  rcases List.mem_append.1 (show x ∈ A.Q ++ B.Q.map (jQ A.G.length r.1) from hx) with h | h
  ·
   exact hA.q x h
  ·
   obtain ⟨q, hq, rfl⟩ := List.mem_map.1 h
   obtain ⟨g1, g2, g3, g4⟩ := form_q hf hq
   obtain ⟨c1, c2, c3, c4⟩ := hB.q q hq
   refine ⟨wf64 (show 0 ≤ q.1 + (A.G.length : Int) by omega) (show q.1 + (A.G.length : Int) < 1000 by omega), c2, by show (q.2.2.map _).length ≤ maxLen; rw [List.length_map]; exact c3, fun t ht => ?_⟩
   obtain ⟨u, hu, rfl⟩ := List.mem_map.1 (show t ∈ q.2.2.map (clT r.1) from ht)
   obtain ⟨d1, d2, d3, d4⟩ := g4 u hu
   have hh := hr3 u.2.1.toNat d2
   exact ⟨(c4 u hu).1, wf64 hh.1 (show r.1.getD u.2.1.toNat 0 < 1000 by omega), (c4 u hu).2.2⟩
/-- a slice of pairs -/
def PSl (w : World) (ao : Option Addr) (L : List PRt) : Prop := ∀ k (h : k < L.length), ∃ b off, ao = some ⟨b, off, none⟩ ∧ w.cell? ⟨b, off + k * 2, none⟩ = some (.int .i64 L[k].1) ∧ w.cell? ⟨b, off + k * 2 + 1, none⟩ = some (.int .i64 L[k].2)
theorem PSl.keep {w w' : World} {a : Option Addr} {L : List PRt} (h : PSl w a L) (hk : ∀ p v, w.cell? p = some v → w'.cell? p = some v) : PSl w' a L := fun k hk' => by
 obtain ⟨b, off, h1, h2, h3⟩ := h k hk'
 exact ⟨b, off, h1, hk _ _ h2, hk _ _ h3⟩
/-- what Join returns -/
def JoP (R : JRs) (w : World) : Ending → World → Prop := fun e w' => ∃ (s : StA) (S : StM) (n : Nat) (io : Option Addr) (c : Nat), e = .returned (.tuple #[.agg #[.slice s.ga S.G.length s.gc, .slice s.va S.V.length s.vc, .slice s.qa S.Q.length s.qc], .slice io n c, .int .i64 R.1]) ∧ SS w' s S ∧ S.ok ∧ S.pl = R.2.1 ∧ LI w' io R.2.2 ∧ n = R.2.2.length ∧ Below w.heap.size w w'
theorem JoP.no {z : Int} {w w' : World} (h : Below w.heap.size w w') : JoP (noJ z) w (.returned (.tuple #[.agg #[.slice none 0 0, .slice none 0 0, .slice none 0 0], .slice none 0 0, .int .i64 z])) w' :=
 ⟨⟨none, 0, none, 0, none, 0⟩, ⟨[], [], []⟩, 0, none, 0, rfl, ⟨fun k h => by simp at h, fun k h => by simp at h, fun k h => by simp at h⟩, ⟨by simp, by simp, by simp, fun _ h => by simp at h, fun _ h => by simp at h, fun _ h => by simp at h⟩, rfl, fun k h => by simp [noJ] at h, rfl, h⟩
theorem results_cell_tmp2 {fn : Func} {p u v : Tmp} {ty : TypeId} (h : fn.results = #[.cell p ty, .tmp u, .tmp v]) (tmps : Array Value) (P : Program) (w : World) :
  (results fn tmps).run P w =
   ((asAddr (tmps.getD p undef)).run P w).andThen fun a w₁ => ((loadVar ty a).run P w₁).andThen fun x w₂ => .ok (.tuple #[x, tmps.getD u undef, tmps.getD v undef]) w₂ := by
 simp only [results, h]
 simp [Sem.run_bind, Result.andThen]
section
variable {W : World} {b : Nat}
theorem bodyPost_st3 {fn : Func} {R : Ending → World → Prop} {p q r : Tmp} {a : Act} {v0 v1 v2 x y : Value} (h : fn.results = #[.cell p 49, .tmp q, .tmp r]) (hp : a.tmps.getD p undef = .pointer (some ⟨b, 0, none⟩))
  (hx : a.tmps.getD q undef = x) (hy : a.tmps.getD r undef = y)
  (hb : OB W b v0 v1 v2) (hd : a.defers = []) (hR : R (.returned (.tuple #[.agg #[v0, v1, v2], x, y])) W) : bodyPost Tryz.prog fn R Exit.ret a W := by
 refine bodyPost_ret (v := .tuple #[.agg #[v0, v1, v2], x, y]) (w := W) ?_ hd hR
 rw [results_cell_tmp2 h, hp, hx, hy]
 simp [asAddr, run_loadVar_row W b _ _ _ (0, 0) _ hb Tryz.underlying49 rfl info_stm]
end
end Go.Proofs.YtdhhbjmkdmbffaaGreatDoor

/- slices.Grow and slices.Concat of groups; an append of any slice. -/
namespace Go.Proofs.YtdhhbjmkdmbffaaGreatDoor
open Go.RowKit Num
set_option maxRecDepth 20000
set_option linter.unusedVariables false
theorem run_append_nil_src {P : Program} {w : World} (base : Nat) (t ty e : TypeId) (i : TypeInfo) (size : Nat) (ht : P.underlying t = some (.slice e)) (hi : P.info? e = some i)
  (v : Value) (n c : Nat) (xs : List Value) (hown : w.ownsRow base e size v n xs) : (Builtin.append_ #[t, t] ty #[v, .slice none 0 c]).run P w = .ok v w := by
 rcases hown.2 with ⟨rfl, rfl⟩ | ⟨g, cap, cur, rfl, _, _, hc, _⟩
 ·
  simp [Builtin.append_, run_underlying ht, sizeOf, typeInfo, hi, Builtin.lenOf, Builtin.firstCells]
 ·
  simp [Builtin.append_, run_underlying ht, sizeOf, typeInfo, hi, Builtin.lenOf, Builtin.firstCells, hc, storeCells]
/-- an append of a slice that may be nil -/
theorem wp_append_any {P : Program} {w : World} {o : Oper} {a : Act} {K : Act → World → Prop} {Q : Exit → Act → World → Prop} (s x : Operand) (t : TypeId)
  (ho : o.op = .call { callee := .builtin .append, args := #[s, x], argTypes := #[t, t] })
  (base : Nat) (e : TypeId) (i : TypeInfo) (z : Value) (size bytes : Nat) (ht : P.underlying t = some (.slice e)) (hi : P.info? e = some i) (hz : i.zero = some z)
  (hsize : i.size = size) (hby : i.bytes = bytes) (hzs : z.cells.size = size) (hsz : 0 < size)
  (v : Value) (n : Nat) (xs : List Value) (hs : a.eval s = v) (hown : w.ownsRow base e size v n xs)
  (ao : Option Addr) (m c : Nat) (news : List Value) (hx : a.eval x = .slice ao m c) (hl : news.length = m * size) (hnews : ∀ A, ao = some A → ∀ j u, news[j]? = some u → w.cell? (A.add j) = some u) (hno : ao = none → m = 0) (h1 : ∀ u ∈ news, u.oneCell' = true)
  (h63 : n + m ≤ maxLen) (hbytes : (n + m) * bytes ≤ 140737488355328) (hbase : base ≤ w.heap.size)
  (h : ∀ v' w', w'.ownsRow base e size v' (n + m) (xs ++ news) → w.grownBy w' v.ownBlock → K (a.put o.dst v') w') : o.wp P a w K Q := by
 cases ao with
 | none =>
  obtain rfl := hno rfl
  have hn : news = [] := List.eq_nil_of_length_eq_zero (by simpa using hl)
  subst hn
  have hrun := run_append_nil_src (P := P) (w := w) base t o.type e i size ht hi v n c xs hown
  unfold Oper.wp
  simp [execOp, ho, resolve, invoke, builtin, hs, hx, hrun, Result.andThen]
  exact h _ _ (by simpa using hown) ⟨rfl, rfl, rfl, Nat.le_refl _, fun _ _ _ => rfl⟩
 | some ad => exact wp_append_own w s x t ho base e i z size bytes ht hi hz hsize hby hzs hsz v n xs hs hown ad m c news hx hl (hnews ad rfl) h1 h63 hbytes hbase fun v' w' h2 h3 _ => h v' w' h2 h3
theorem wpList_append_any {P : Program} {w : World} {ops : Array Oper} {rest : List Oper} {o : Oper} {a : Act} {Q : Exit → Act → World → Prop} (hgd : o.guard = none) (s x : Operand) (t : TypeId)
  (ho : o.op = .call { callee := .builtin .append, args := #[s, x], argTypes := #[t, t] })
  (base : Nat) (e : TypeId) (i : TypeInfo) (z : Value) (size bytes : Nat) (ht : P.underlying t = some (.slice e)) (hi : P.info? e = some i) (hz : i.zero = some z)
  (hsize : i.size = size) (hby : i.bytes = bytes) (hzs : z.cells.size = size) (hsz : 0 < size)
  (v : Value) (n : Nat) (xs : List Value) (hs : a.eval s = v) (hown : w.ownsRow base e size v n xs)
  (ao : Option Addr) (m c : Nat) (news : List Value) (hx : a.eval x = .slice ao m c) (hl : news.length = m * size) (hnews : ∀ A, ao = some A → ∀ j u, news[j]? = some u → w.cell? (A.add j) = some u) (hno : ao = none → m = 0) (h1 : ∀ u ∈ news, u.oneCell' = true)
  (h63 : n + m ≤ maxLen) (hbytes : (n + m) * bytes ≤ 140737488355328) (hbase : base ≤ w.heap.size)
  (h : ∀ v' w', w'.ownsRow base e size v' (n + m) (xs ++ news) → w.grownBy w' v.ownBlock → wpList P ops Q rest (a.put o.dst v') w') : wpList P ops Q (o :: rest) a w :=
 wpList_plain hgd fun _ hK => wp_append_any s x t ho base e i z size bytes ht hi hz hsize hby hzs hsz v n xs hs hown ao m c news hx hl hnews hno h1 h63 hbytes hbase fun v' w' h2 h3 => hK _ _ (h v' w' h2 h3)
theorem GSl.nil {w : World} {ao : Option Addr} {L : List (ByteArray × ByteArray)} (h : GSl w ao L) : ao = none → L.length = 0 := fun e => by
 cases L with
 | nil => rfl
 | cons x r => obtain ⟨b, off, he, _⟩ := h 0 (by simp); rw [e] at he; cases he
theorem QSl.nil {w : World} {ao : Option Addr} {L : List EqR} (h : QSl w ao L) : ao = none → L.length = 0 := fun e => by
 cases L with
 | nil => rfl
 | cons x r => obtain ⟨b, off, he, _⟩ := h 0 (by simp); rw [e] at he; cases he
theorem NS.nilL {w : World} {ao : Option Addr} {L : List ByteArray} (h : NS w ao L) : ao = none → L.length = 0 := fun e => by
 cases L with
 | nil => rfl
 | cons x r => obtain ⟨b, off, he, _⟩ := h 0 (by simp); rw [e] at he; cases he
theorem info_grp : (Tryz.prog.info? 27).map (fun i => (i.zero, i.size, i.bytes)) = some (some (.agg #[.string ⟨#[]⟩, .string ⟨#[]⟩]), 2, 32) := by kernel_rfl
theorem info_eq4 : (Tryz.prog.info? 46).map (fun i => (i.zero, i.size, i.bytes)) = some (some (.agg #[.int .i64 0, .string ⟨#[]⟩, .slice none 0 0]), 3, 48) := by kernel_rfl
theorem run_append_make {P : Program} (w : World) (t u ty e : TypeId) (i : TypeInfo) (z : Value) (ht : P.underlying t = some (.slice e)) (hu : P.underlying u = some (.int .i64)) (hi : P.info? e = some i) (hz : i.zero = some z)
  (n : Nat) (h0 : 0 < n) (hn : n ≤ 1000) (h48 : i.bytes ≤ 1000) (hs : 0 < i.size) :
  (Builtin.append_ #[t, u] ty #[.slice none 0 0, .int .i64 (n : Int)]).run P w =
   .ok (.slice (some ⟨w.heap.size, 0, none⟩) n (grownCap w n 0 e)) (w.drew.alloc (.cells (Builtin.zeroCells z.cells n ++ Builtin.zeroCells z.cells (grownCap w n 0 e - n)) e)) := by
 have hb : n * i.bytes ≤ 1000 * 1000 := Nat.mul_le_mul hn h48
 have e1 : IntKind.i64.wrap (n : Int) = (n : Int) := by rw [IntKind.wrap_i64]; omega
 have e2 : ¬ ((n : Int) < 0) := by omega
 have e3 : ¬ (281474976710656 < (n : Int) * (i.bytes : Int)) := by rw [← Int.natCast_mul]; omega
 have e4' : n ≠ 0 := by omega
 have e5 : ¬ (9223372036854775807 < (n : Int)) := by omega
 have e6 : ¬ (281474976710656 < Builtin.nextslicecap n 0 * i.bytes) := by rw [nextslicecap_zero h0]; omega
 simp [Builtin.append_, run_underlying ht, run_underlying hu, sizeOf, typeInfo, zeroValue, hi, hz, e1, e2, e3, e4', e5, e6, Question.forced, run_firstCells_none, newRow, grownCap, asInt, asIntOf]
 intro h
 exact absurd h (by have := Nat.mul_pos h0 hs; omega)
theorem wpList_append_make {P : Program} {w : World} {ops : Array Oper} {rest : List Oper} {o : Oper} {a : Act} {Q : Exit → Act → World → Prop} (hgd : o.guard = none) (s x : Operand) (t u : TypeId)
  (ho : o.op = .call { callee := .builtin .append, args := #[s, x], argTypes := #[t, u] })
  (e : TypeId) (i : TypeInfo) (z : Value) (size : Nat) (ht : P.underlying t = some (.slice e)) (hu : P.underlying u = some (.int .i64)) (hi : P.info? e = some i) (hz : i.zero = some z)
  (hsize : i.size = size) (hzs : z.cells.size = size) (hsz : 0 < size) (n : Nat) (h0 : 0 < n) (hn : n ≤ 1000) (h48 : i.bytes ≤ 1000)
  (hsv : a.eval s = .slice none 0 0) (hx : a.eval x = .int .i64 (n : Int))
  (h : ∀ g cap w', n ≤ cap → w'.ownsRow w.heap.size e size (.slice (some ⟨g, 0, none⟩) 0 cap) 0 [] → Below w.heap.size w w' → wpList P ops Q rest (a.put o.dst (.slice (some ⟨g, 0, none⟩) n cap)) w') : wpList P ops Q (o :: rest) a w := by
 refine wpList_plain hgd fun K hK => ?_
 subst hsize
 have hrun := run_append_make (P := P) w t u o.type e i z ht hu hi hz n h0 hn h48 hsz
 have hge := grownCap_ge w n 0 e
 have hcm : grownCap w n 0 e ≤ maxLen := grownCap_le_maxLen w n 0 e (by unfold maxLen; omega)
 have hown : (w.drew.alloc (.cells (Builtin.zeroCells z.cells n ++ Builtin.zeroCells z.cells (grownCap w n 0 e - n)) e)).ownsRow w.heap.size e i.size (.slice (some ⟨w.heap.size, 0, none⟩) 0 (grownCap w n 0 e)) 0 [] := by
  refine ⟨by simp, .inr ⟨w.heap.size, _, _, rfl, Nat.le_refl _, heap_alloc_new w.drew _, Nat.zero_le _, hcm, ?_, by simp⟩⟩
  rw [Array.size_append, size_zeroCells, size_zeroCells, hzs, ← Nat.add_mul]
  congr 1
  omega
 unfold Oper.wp
 simp [execOp, ho, resolve, invoke, builtin, hsv, hx, hrun, Result.andThen]
 exact hK _ _ (h _ _ _ hge hown ((Below.refl _ w).drew.alloc (Nat.le_refl _) _))
set_option maxHeartbeats 4000000 in
theorem growG_any (n : Nat) (w : World) (hn : n ≤ 100) :
  Calls Tryz.prog 91 #[.slice none 0 0, .int .i64 (n : Int)] w fun e w' => ∃ v, e = .returned v ∧ w'.ownsRow w.heap.size 27 2 v 0 [] ∧ Below w.heap.size w w' := by
 obtain ⟨i0, hi, hz0, hz1, hz2⟩ := info_parts info_grp
 by_cases h0 : n = 0
 ·
  subst h0
  clear hi hz0 hz1 hz2
  go_enter Tryz.func91, Tryz.ntmps91
  go_wp2_with fail
  go_ret
  exact ⟨_, rfl, World.ownsRow_nil _ _ _ _, Below.refl _ _⟩
 ·
  have h1 : (0 : Int) < (n : Int) := by omega
  have h2 : ¬ ((n : Int) ≤ 0) := by omega
  go_enter Tryz.func91, Tryz.ntmps91
  go_wp2_with (at_builtin; refine wpList_append_make rfl (.tmp 20) (.tmp 21) 38 3 rfl 27 i0 (.agg #[.string ⟨#[]⟩, .string ⟨#[]⟩]) 2 Tryz.underlying38 Tryz.underlying3 hi hz0 hz1 rfl (by decide) n (by omega) (by omega) (by rw [hz2]; omega) rfl rfl ?_; intro g cap w1 hcap hown b1)
  go_ret
  exact ⟨_, rfl, hown, b1⟩
set_option maxHeartbeats 4000000 in
theorem concatG_any (r : Nat) (ga gb : Option Addr) (n m c c' : Nat) (G G' : List (ByteArray × ByteArray)) (w : World) (h0 : w.cell? ⟨r, 0, none⟩ = some (.slice ga n c)) (h1 : w.cell? ⟨r, 1, none⟩ = some (.slice gb m c')) (hG : GSl w ga G) (hG' : GSl w gb G') (hn : G.length = n) (hm : G'.length = m) (hn8 : n ≤ 20) (hm8 : m ≤ 20) :
  Calls Tryz.prog 42 #[.slice (some ⟨r, 0, none⟩) 2 2] w fun e w' => ∃ v, e = .returned v ∧ w'.ownsRow w.heap.size 27 2 v (n + m) (gcl (G ++ G')) ∧ Below w.heap.size w w' := by
 obtain ⟨i0, hi, hz0, hz1, hz2⟩ := info_parts info_grp
 have HI := Lib.hid (And.intro hi (And.intro hz0 (And.intro hz1 hz2)))
 have HG := Lib.hid hG
 have HG' := Lib.hid hG'
 have HN := Lib.hid hn
 have HM := Lib.hid hm
 have HGR := Lib.hid (fun w => growG_any (n + m) w (by omega))
 clear hi hz0 hz1 hz2 hG hG' hn hm
 go_enter Tryz.func42, Tryz.ntmps42
 go_wp2_with fail
 go_loopw [3, 11] (fun v3 v11 wr => ∃ k s : Nat, v11 = .int .i64 (k : Int) ∧ v3 = .int .i64 (s : Int) ∧ (k = 0 ∧ s = 0 ∨ k = 1 ∧ s = n ∨ k = 2 ∧ s = n + m) ∧ wr = w) (fun _ v11 _ => 2 - (intOf v11).toNat)
 case atStart => exact ⟨0, 0, rfl, rfl, .inl ⟨rfl, rfl⟩, rfl⟩
 case round =>
  obtain ⟨k, s, rfl, rfl, hks, rfl⟩ := hrel
  rcases hks with ⟨rfl, rfl⟩ | ⟨rfl, rfl⟩ | ⟨rfl, rfl⟩
  ·
   go_wp2_with fail
   exact ⟨⟨1, n, rfl, by go_num, .inr (.inl ⟨rfl, rfl⟩), by trivial⟩, by simp [intOf]⟩
  ·
   go_wp2_with fail
   exact ⟨⟨2, s + m, rfl, by go_num, .inr (.inr ⟨rfl, rfl⟩), by trivial⟩, by simp [intOf]⟩
  ·
   go_wp2_with fail
   refine (HGR.out _).mono ?_; rintro e w1 ⟨v, rfl, hown, b1⟩
   clear HGR
   go_wp2_with fail
   go_loopw [6, 27] (fun v6 v27 wq => ∃ (k nn : Nat) (xs : List (ByteArray × ByteArray)), v27 = .int .i64 (k : Int) ∧ wq.ownsRow wr.heap.size 27 2 v6 nn (gcl xs) ∧ (k = 0 ∧ nn = 0 ∧ xs = [] ∨ k = 1 ∧ nn = n ∧ xs = G ∨ k = 2 ∧ nn = n + m ∧ xs = G ++ G') ∧ Below wr.heap.size wr wq) (fun _ v27 _ => 2 - (intOf v27).toNat)
   case atStart => exact ⟨0, 0, [], rfl, hown, .inl ⟨rfl, rfl, rfl⟩, b1⟩
   case round =>
    clear hown b1
    rename World => wq
    obtain ⟨k, nn, xs, rfl, hown, hks, hB⟩ := hrel
    have c0 := cells_keepL hB (Nat.le_refl _) _ _ h0
    have c1 := cells_keepL hB (Nat.le_refl _) _ _ h1
    have HA := Lib.hid (HG.out.keep (cells_keepL hB (Nat.le_refl _)))
    have HB := Lib.hid (HG'.out.keep (cells_keepL hB (Nat.le_refl _)))
    obtain ⟨hi, hz0, hz1, hz2⟩ := HI.out
    have hlA : (gcl G).length = n * 2 := by rw [gcl_len, HN.out]
    have hlB : (gcl G').length = m * 2 := by rw [gcl_len, HM.out]
    have hzA : ga = none → n = 0 := fun e => by rw [← HN.out]; exact HA.out.nil e
    have hzB : gb = none → m = 0 := fun e => by rw [← HM.out]; exact HB.out.nil e
    have hsz := hB.size
    rcases hks with ⟨rfl, rfl, rfl⟩ | ⟨rfl, rfl, rfl⟩ | ⟨rfl, rfl, rfl⟩
    ·
     go_wp2_with (at_builtin; refine wpList_append_any rfl (.tmp 31) (.tmp 32) 38 rfl wr.heap.size 27 i0 (.agg #[.string ⟨#[]⟩, .string ⟨#[]⟩]) 2 32 Tryz.underlying38 hi hz0 hz1 hz2 rfl (by decide) u6 0 (gcl []) rfl hown ga n c (gcl G) rfl hlA (fun A e => by subst e; exact HA.out.cellsA) hzA (gcl_one G) (by unfold maxLen; omega) (by omega) hsz ?_; intro v2 w2 hown2 hgr; rw [show gcl [] = [] from rfl, List.nil_append, Nat.zero_add] at hown2; have hB2 : Below wr.heap.size wr w2 := hB.grown hgr hsz (fun q e => (own_ge hown q e).1))
     exact ⟨⟨1, n, G, rfl, hown2, .inr (.inl ⟨rfl, rfl, rfl⟩), hB2⟩, by simp [intOf]⟩
    ·
     go_wp2_with (at_builtin; refine wpList_append_any rfl (.tmp 31) (.tmp 32) 38 rfl wr.heap.size 27 i0 (.agg #[.string ⟨#[]⟩, .string ⟨#[]⟩]) 2 32 Tryz.underlying38 hi hz0 hz1 hz2 rfl (by decide) u6 nn (gcl xs) rfl hown gb m c' (gcl G') rfl hlB (fun A e => by subst e; exact HB.out.cellsA) hzB (gcl_one G') (by unfold maxLen; omega) (by omega) hsz ?_; intro v2 w2 hown2 hgr; rw [← gcl_app] at hown2; have hB2 : Below wr.heap.size wr w2 := hB.grown hgr hsz (fun q e => (own_ge hown q e).1))
     exact ⟨⟨2, nn + m, xs ++ G', rfl, hown2, .inr (.inr ⟨rfl, rfl, rfl⟩), hB2⟩, by simp [intOf]⟩
    ·
     go_wp2_with fail
     go_ret
     exact ⟨_, rfl, hown, hB⟩
end Go.Proofs.YtdhhbjmkdmbffaaGreatDoor

/- Openers: a slice of pairs of int; two statements with witnesses. -/
namespace Go.Proofs.YtdhhbjmkdmbffaaGreatDoor
open Go.RowKit Go.WideShapes Go.ChangeShapes Go.ChangeAt Num
set_option linter.unusedVariables false
set_option maxRecDepth 20000
section
variable {H : Type} {enc : TypeId × Value → H} {W : World} {base : Nat} {v : Value} {d : DataW H} {p : List MemPlace}
/-- an argument of the type [][2]int -/
theorem open_PP (hv : Value.okWide Tryz.prog W .any base 68 v) (h : DataW.Trod enc Tryz.prog W 0 (fun _ => true) true 68 v d p) :
  ∃ (ao : Option Addr) (cm : Nat) (L : List PRt), v = .slice ao L.length cm ∧ L.length ≤ maxLen ∧ PSl W ao L := by
 obtain ⟨a0, len, cap, rfl⟩ := okWide_slice Tryz.underlying68 hv
 obtain ⟨fuel, hf⟩ := h
 replace hf : DataW.trod enc Tryz.prog W 0 (fun _ => true) true fuel 68 [.slice a0 len cap] = some (d, p) := hf
 obtain ⟨ao, cm, L, g1, g2, g3⟩ := open_rows (k := 2) (α := PRt) (fun q f => f 0 = some (.int .i64 q.1) ∧ f 1 = some (.int .i64 q.2)) Tryz.underlying68 (by kernel_rfl) (by omega) (fun n cs y hy hl => by
  obtain ⟨xs, m, _, _, _, hlen, hg⟩ := DataW.trod_array Tryz.underlying82 hy
  have hc : Tryz.prog.cellsOf 3 = 1 := by kernel_rfl
  have y0 := hg 0 (by omega)
  have y1 := hg 1 (by omega)
  rw [hc, List.getElem?_eq_getElem (by omega)] at y0 y1
  obtain ⟨i, hi, _, zi⟩ := DataW.trod_int Tryz.underlying3 y0
  obtain ⟨j, hj, _, zj⟩ := DataW.trod_int Tryz.underlying3 y1
  exact ⟨(i, j), one_at hi, one_at hj⟩) hf
 refine ⟨ao, cm, L, g1, g2, fun k hk => ?_⟩
 obtain ⟨b, off, h4, h5, h6⟩ := g3 k hk
 exact ⟨b, off, h4, by simpa using h5, by simpa using h6⟩
/-- a statement inside a struct -/
theorem rows_stm {fuel : Nat} {l : List Value} {y : DataW H × List MemPlace} (hl : l.length = 3) (hf' : DataW.trod enc Tryz.prog W 0 (fun _ => true) true fuel 49 l = some y) :
  ∃ (a : StA) (S : StM), l = [.slice a.ga S.G.length a.gc, .slice a.va S.V.length a.vc, .slice a.qa S.Q.length a.qc] ∧ S.ok ∧ SS W a S := by
 obtain ⟨n0, y0, hy0⟩ := fld (j := 0) Tryz.underlying49 rfl hf'
 obtain ⟨n1, y1, hy1⟩ := fld (j := 1) Tryz.underlying49 rfl hf'
 obtain ⟨n2, y2, hy2⟩ := fld (j := 2) Tryz.underlying49 rfl hf'
 match l, hl with
 | [c0, c1, c2], _ =>
 replace hy0 : DataW.trod enc Tryz.prog W 0 (fun _ => true) true n0 38 [c0] = some y0 := hy0
 replace hy1 : DataW.trod enc Tryz.prog W 0 (fun _ => true) true n1 41 [c1] = some y1 := hy1
 replace hy2 : DataW.trod enc Tryz.prog W 0 (fun _ => true) true n2 47 [c2] = some y2 := hy2
 obtain ⟨ga, gc, G, rfl, g1, g2, g3⟩ := rows_groups hy0
 obtain ⟨va, vc, V, rfl, v1, v2, v3⟩ := rows_vars hy1
 obtain ⟨qa, qc, Q, rfl, q1, q2, q3⟩ := rows_eqs hy2
 exact ⟨⟨ga, gc, va, vc, qa, qc⟩, ⟨G, V, Q⟩, rfl, ⟨g1, v1, q1, g2, v2, q2⟩, ⟨g3, v3, q3⟩⟩
end
end Go.Proofs.YtdhhbjmkdmbffaaGreatDoor
