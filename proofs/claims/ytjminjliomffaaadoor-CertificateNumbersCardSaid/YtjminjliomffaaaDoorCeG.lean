import Derived.Test.YtjminjliomffaaaDoorCeE
import Derived.Maps.Own
import Derived.Maps.OwnOps
import Derived.Maps.OwnSet
import Derived.Maps.AppendAt
/- certificate.Find: the captured variables, the map and the steps in memory. -/
namespace Go.Proofs.YtjminjliomffaaaDoor
open Go.RowKit Num Go.Maps
set_option maxRecDepth 20000
set_option linter.unusedVariables false
/-- what a number reads as, as a key -/
def kl (n : Nat) : Lit := .string (enc n).data.toList
theorem kl_key {n : Nat} (h : blen n ≤ 128) : keyOf Tryd.prog 27 (.string (enc n)) = some (kl n) := by
  have hu : Tryd.prog.underlying 27 = some .string := Tryd.underlying27
  have hs : (enc n).size ≤ maxLen := by rw [size_enc]; unfold maxLen; omega
  simp only [keyOf, mapKey, hu, if_pos hs, kl]
theorem kl_inj {n m : Nat} (h : kl n = kl m) : n = m := by
  unfold kl at h
  injection h with h
  exact enc_inj (by apply ByteArray.ext; exact Array.toList_inj.1 h)
theorem keyedC : Keyed Tryd.prog 27 := string_keyed Tryd.underlying27
theorem kl_is {n : Nat} (h : blen n ≤ 128) : WideAt.IsKeyLit (kl n) := keyedC.key (kl_key h)
/-- the cells of steps -/
def cellsS (S : List StR) : List Value := S.flatMap fun r => [.string r.1, .string r.2.1, .slice r.2.2.1 r.2.2.2.2.length r.2.2.2.1]
theorem cellsS_app (S : List StR) (r : StR) : cellsS (S ++ [r]) = cellsS S ++ [.string r.1, .string r.2.1, .slice r.2.2.1 r.2.2.2.2.length r.2.2.2.1] := by simp [cellsS]
/-- the factors of a step lie in a row of their own -/
def FR (w : World) (B : Nat) (r : StR) : Prop := w.ownsRow B 3 1 (.slice r.2.2.1 r.2.2.2.2.length r.2.2.2.1) r.2.2.2.2.length (r.2.2.2.2.map (Value.int .i64))
/-- the function value of the closure -/
def addV (bi bs ba : Nat) : Value := .func (.func 27) #[] #[.pointer (some ⟨bi, 0, none⟩), .pointer (some ⟨bs, 0, none⟩), .pointer (some ⟨ba, 0, none⟩)]
structure FW (w : World) (B bi bs ba bm : Nat) (v : Value) (S : List StR) (D : DataW Unit) : Prop where
  xi : w.heap[bi]? = some (.cells #[.map (some bm)] 59 (0, 0))
  xs : w.heap[bs]? = some (.cells #[v] 31 (0, 0))
  xa : w.heap[ba]? = some (.cells #[addV bi bs ba] 60 (0, 0))
  own : w.ownsRow B 44 3 v S.length (cellsS S)
  fs : ∀ r ∈ S, FR w B r
  map : w.ownsMap Tryd.prog 27 (plainElem Tryd.prog 3) bm S.length D
  hi : B ≤ bi
  hs : B ≤ bs
  ha : B ≤ ba
  hm : B ≤ bm
  hg : 0 < B
  tab : Tab w
  dk : ∀ n : Nat, blen n ≤ 128 → Maps.has D (kl n) = knownB (S.map stp) n ∧ (knownB (S.map stp) n = true → D.atKey (kl n) (.lit (.int .i64 0)) = .lit (.int .i64 (idx (S.map stp) n : Nat)))
/-- what a call of the closure leaves alone -/
structure Fr (w w' : World) (bs bm : Nat) (v v' : Value) : Prop where
  os : w'.os = w.os
  tape : w'.tape = w.tape
  output : w'.output = w.output
  size : w.heap.size ≤ w'.heap.size
  block : ∀ k, k < w.heap.size → k ≠ bs → k ≠ bm → v.ownBlock ≠ some k → w'.heap[k]? = w.heap[k]?
  loc : v'.ownBlock = v.ownBlock ∨ ∀ k, v'.ownBlock = some k → w.heap.size ≤ k
theorem Fr.refl (w : World) (bs bm : Nat) (v : Value) : Fr w w bs bm v v := ⟨rfl, rfl, rfl, Nat.le_refl _, fun _ _ _ _ _ => rfl, .inl rfl⟩
theorem Fr.trans {a b c : World} {bs bm : Nat} {u v x : Value} (h : Fr a b bs bm u v) (k : Fr b c bs bm v x) : Fr a c bs bm u x :=
  ⟨k.os.trans h.os, k.tape.trans h.tape, k.output.trans h.output, Nat.le_trans h.size k.size, fun j h1 h2 h3 h4 => by
    rw [k.block j (Nat.lt_of_lt_of_le h1 h.size) h2 h3, h.block j h1 h2 h3 h4]
    rcases h.loc with e | e
    · rw [e]; exact h4
    · intro e2; have := e j e2; omega, by
    rcases k.loc with e | e
    · rw [e]; exact h.loc
    · exact .inr fun j hj => Nat.le_trans h.size (e j hj)⟩
theorem Fr.of_below {w w' : World} (h : Below w.heap.size w w') (bs bm : Nat) (v : Value) : Fr w w' bs bm v v :=
  ⟨h.os, h.tape, h.output, h.size, fun k hk _ _ _ => h.block k hk, .inl rfl⟩
section
variable {w w' : World} {B bi bs ba bm : Nat} {v v' : Value} {S : List StR} {D : DataW Unit}
theorem FW.row (h : FW w B bi bs ba bm v S D) : ∀ k, v.ownBlock = some k → B ≤ k ∧ k < w.heap.size := h.own.lt
theorem FW.rowT (h : FW w B bi bs ba bm v S D) {k : Nat} (hk : v.ownBlock = some k) : ∃ cur, w.heap[k]? = some (.cells cur 44 (0, 0)) := by
  rcases h.own.2 with ⟨rfl, _⟩ | ⟨g, cap, cur, rfl, _, hg, _⟩
  · cases hk
  · cases hk; exact ⟨cur, hg⟩
theorem FW.mapT (h : FW w B bi bs ba bm v S D) : ∃ es c, w.heap[bm]? = some (.map es c) := by
  obtain ⟨es, c, h1, _⟩ := h.map; exact ⟨es, c, h1⟩
theorem FW.below (h : FW w B bi bs ba bm v S D) (f : Fr w w' bs bm v v') : Below B w w' :=
  ⟨f.os, f.tape, f.output, f.size, fun k hk => by
    rcases Nat.lt_or_ge k w.heap.size with hlt | hge
    · exact f.block k hlt (by have := h.hs; omega) (by have := h.hm; omega) (fun e => by have := (h.row k e).1; omega)
    · have h1 : bi < w.heap.size := (Array.getElem?_eq_some_iff.1 h.xi).1
      have := h.hi
      omega⟩
theorem FW.size (h : FW w B bi bs ba bm v S D) : B ≤ w.heap.size := by
  have h1 : bi < w.heap.size := (Array.getElem?_eq_some_iff.1 h.xi).1
  have := h.hi
  omega
theorem tab_belowB {w w' : World} {B : Nat} (h : Tab w) (hb : Below B w w') (hB : 0 < B) : Tab w' := fun j hj => (hb.cell (p := ⟨0, j, none⟩) hB).trans (h j hj)
theorem ownsRow_at {w w' : World} {B e size n : Nat} {v : Value} {xs : List Value} (h : w.ownsRow B e size v n xs) (hk : ∀ g, v.ownBlock = some g → w'.heap[g]? = w.heap[g]?) : w'.ownsRow B e size v n xs := by
  refine ⟨h.1, ?_⟩
  rcases h.2 with hn | ⟨g, cap, cur, rfl, hb, hgg, rest⟩
  · exact .inl hn
  · exact .inr ⟨g, cap, cur, rfl, hb, (hk g rfl).trans hgg, rest⟩
/-- a row of another type is no other block -/
theorem row_ne {w : World} {B e n : Nat} {v : Value} {xs : List Value} {size : Nat} (h : w.ownsRow B e size v n xs) {k : Nat} (hk : ∀ cur : Array Value, w.heap[k]? ≠ some (Obj.cells cur e (0, 0))) : v.ownBlock ≠ some k := by
  rcases h.2 with ⟨rfl, _⟩ | ⟨g, cap, cur, rfl, _, hg, _⟩
  · intro e; cases e
  · intro e; cases e; exact hk _ hg
theorem FR.keep {r : StR} (h : FR w B r) (hk : ∀ (g : Nat) (cur : Array Value), w.heap[g]? = some (Obj.cells cur 3 (0, 0)) → w'.heap[g]? = w.heap[g]?) : FR w' B r := by
  unfold FR at *
  refine ⟨h.1, ?_⟩
  rcases h.2 with hn | ⟨g, cap, cur, hv, hb, hgg, rest⟩
  · exact .inl hn
  · exact .inr ⟨g, cap, cur, hv, hb, (hk g cur hgg).trans hgg, rest⟩
/-- new memory alone -/
theorem FW.grow (h : FW w B bi bs ba bm v S D) (hb : Below w.heap.size w w') : FW w' B bi bs ba bm v S D where
  xi := (hb.block _ (Array.getElem?_eq_some_iff.1 h.xi).1).trans h.xi
  xs := (hb.block _ (Array.getElem?_eq_some_iff.1 h.xs).1).trans h.xs
  xa := (hb.block _ (Array.getElem?_eq_some_iff.1 h.xa).1).trans h.xa
  own := ownsRow_at h.own fun g hg => hb.block g (h.own.lt g hg).2
  fs := fun r hr => (h.fs r hr).keep fun g cur hg => hb.block g (Array.getElem?_eq_some_iff.1 hg).1
  map := by
    obtain ⟨es, c, h1, h2⟩ := h.map
    exact ⟨es, c, (hb.block _ (Array.getElem?_eq_some_iff.1 h1).1).trans h1, h2⟩
  hi := h.hi
  hs := h.hs
  ha := h.ha
  hm := h.hm
  hg := h.hg
  tab := h.tab.below hb
  dk := h.dk
theorem FW.ci (h : FW w B bi bs ba bm v S D) : w.cell? ⟨bi, 0, none⟩ = some (.map (some bm)) := by rw [Lib.cell_of_heap h.xi]; rfl
theorem FW.cs (h : FW w B bi bs ba bm v S D) : w.cell? ⟨bs, 0, none⟩ = some v := by rw [Lib.cell_of_heap h.xs]; rfl
theorem FW.ca (h : FW w B bi bs ba bm v S D) : w.cell? ⟨ba, 0, none⟩ = some (addV bi bs ba) := by rw [Lib.cell_of_heap h.xa]; rfl
theorem FW.fs0 (h : FW w B bi bs ba bm v S D) : w.frozen? ⟨bs, 0, none⟩ = false := Lib.frozen_of_heap h.xs 0
theorem knownB_app {S : List Stp} {s : Stp} {m : Nat} : knownB (S ++ [s]) m = (knownB S m || nv s.1 == m) := by unfold knownB; rw [List.any_append]; simp
theorem idx_new {S : List Stp} {s : Stp} (h : knownB S (nv s.1) = false) : idx (S ++ [s]) (nv s.1) = S.length := by
  unfold idx
  rw [List.findIdx_append, if_neg]
  · simp
  · intro h2
    have := List.findIdx_lt_length.1 h2
    unfold knownB at h
    rw [List.any_eq_true.2 this] at h; cases h
/-- a step more: the map, the row, the variable -/
theorem FW.push (h : FW w B bi bs ba bm v S D) {n : Nat} (hn : blen n ≤ 128) (hk : knownB (S.map stp) n = false) {r : StR} (hr : r.1 = enc n) (hR : FR w B r)
    {w1 w3 : World} (hg1 : w.grownBy w1 (some bm)) (hm1 : w1.ownsMap Tryd.prog 27 (plainElem Tryd.prog 3) bm (S.length + 1) (D.put (kl n) (.lit (.int .i64 (S.length : Int)))))
    (o : Obj) (hg3 : (w1.alloc o).grownBy w3 v.ownBlock) (hloc : v'.ownBlock = v.ownBlock ∨ v'.ownBlock = some (w1.heap.size + 1))
    (ho3 : w3.ownsRow B 44 3 v' (S.length + 1) (cellsS S ++ [.string r.1, .string r.2.1, .slice r.2.2.1 r.2.2.2.2.length r.2.2.2.1])) :
    FW (w3.setCell ⟨bs, 0, none⟩ v') B bi bs ba bm v' (S ++ [r]) (D.put (kl n) (.lit (.int .i64 (S.length : Int)))) ∧ Fr w (w3.setCell ⟨bs, 0, none⟩ v') bs bm v v' := by
  obtain ⟨es, c, hmt⟩ := h.mapT
  have zi := (Array.getElem?_eq_some_iff.1 h.xi).1
  have zs := (Array.getElem?_eq_some_iff.1 h.xs).1
  have za := (Array.getElem?_eq_some_iff.1 h.xa).1
  have zm := (Array.getElem?_eq_some_iff.1 hmt).1
  have z1 := hg1.size
  have z3 := hg3.size
  rw [World.size_alloc] at z3
  have key : ∀ k, k < w.heap.size → k ≠ bs → k ≠ bm → v.ownBlock ≠ some k → (w3.setCell ⟨bs, 0, none⟩ v').heap[k]? = w.heap[k]? := by
    intro k h1 h2 h3 h4
    rw [Below.heap_setCell _ _ _ _ h2, hg3.block k (by rw [World.size_alloc]; omega) (fun e => h4 e.symm), Below.heap_alloc w1 o k (by omega), hg1.block k h1 (by intro e; injection e with e; exact h3 e)]
  have e1 : bi ≠ bs := fun e => by have := h.xi; rw [e, h.xs] at this; cases this
  have e2 : ba ≠ bs := fun e => by have := h.xa; rw [e, h.xs] at this; cases this
  have e3 : bi ≠ bm := fun e => by have := h.xi; rw [e, hmt] at this; cases this
  have e4 : ba ≠ bm := fun e => by have := h.xa; rw [e, hmt] at this; cases this
  have e5 : bs ≠ bm := fun e => by have := h.xs; rw [e, hmt] at this; cases this
  have r1 : v.ownBlock ≠ some bi := row_ne h.own fun cur => by rw [h.xi]; intro e; cases e
  have r2 : v.ownBlock ≠ some ba := row_ne h.own fun cur => by rw [h.xa]; intro e; cases e
  have r3 : v.ownBlock ≠ some bs := row_ne h.own fun cur => by rw [h.xs]; intro e; cases e
  have r4 : v.ownBlock ≠ some bm := row_ne h.own fun cur => by rw [hmt]; intro e; cases e
  have r3' : v'.ownBlock ≠ some bs := by
    rcases hloc with e | e
    · rw [e]; exact r3
    · rw [e]; intro e; injection e with e; omega
  have hFR : ∀ x : StR, FR w B x → FR (w3.setCell ⟨bs, 0, none⟩ v') B x := fun x hx => hx.keep fun g cur hg => key g (Array.getElem?_eq_some_iff.1 hg).1
    (fun e => by rw [e, h.xs] at hg; cases hg) (fun e => by rw [e, hmt] at hg; cases hg) (fun e => by
      obtain ⟨cur', h'⟩ := h.rowT e
      rw [h'] at hg; cases hg)
  have xs3 : w3.heap[bs]? = some (.cells #[v] 31 (0, 0)) := by
    rw [hg3.block bs (by rw [World.size_alloc]; omega) (fun e => r3 e.symm), Below.heap_alloc w1 o bs (by omega), hg1.block bs zs (by intro e; injection e with e; exact e5 e)]
    exact h.xs
  have hfr : Fr w (w3.setCell ⟨bs, 0, none⟩ v') bs bm v v' := by
    have hb : Below B w3 (w3.setCell ⟨bs, 0, none⟩ v') := (Below.refl B w3).setCell (p := ⟨bs, 0, none⟩) h.hs _
    exact ⟨hb.os.trans (hg3.os.trans hg1.os), hb.tape.trans (hg3.tape.trans hg1.tape), hb.output.trans (hg3.output.trans hg1.output), Nat.le_trans (by omega) hb.size, key, by
      rcases hloc with e | e
      · exact .inl e
      · exact .inr fun k hk => by rw [e] at hk; injection hk with hk; omega⟩
  refine ⟨?_, hfr⟩
  exact {
    xi := (key bi zi e1 e3 r1).trans h.xi
    xs := put1' xs3
    xa := (key ba za e2 e4 r2).trans h.xa
    own := by
      rw [cellsS_app, List.length_append, List.length_singleton]
      exact ownsRow_at ho3 fun g hg => Below.heap_setCell _ _ _ _ (fun e => r3' (by rw [hg, e]))
    fs := fun x hx => by
      rcases List.mem_append.1 hx with hx | hx
      · exact hFR x (h.fs x hx)
      · rw [List.mem_singleton.1 hx]; exact hFR r hR
    map := by
      rw [List.length_append, List.length_singleton]
      obtain ⟨es', c', h1, h2⟩ := hm1
      have zm1 := (Array.getElem?_eq_some_iff.1 h1).1
      refine ⟨es', c', ?_, h2⟩
      rw [Below.heap_setCell _ _ _ _ (fun e => e5 e.symm), hg3.block bm (by rw [World.size_alloc]; omega) (fun e => r4 e.symm), Below.heap_alloc w1 o bm zm1]
      exact h1
    hi := h.hi
    hs := h.hs
    ha := h.ha
    hm := h.hm
    hg := h.hg
    tab := tab_belowB h.tab (h.below hfr) h.hg
    dk := fun m hm => by
      have hst : (stp r).1 = enc n := hr
      have hnv : nv (stp r).1 = n := by rw [hst, nv_enc]
      obtain ⟨d1, d2⟩ := h.dk m hm
      have hmap : (S ++ [r]).map stp = S.map stp ++ [stp r] := by simp
      rw [hmap, knownB_app, hnv]
      by_cases hnm : n = m
      · subst hnm
        rw [Maps.has_put_same h.map.isMap (kl_is hn), show (n == n) = true by simp, Bool.or_true]
        refine ⟨rfl, fun _ => ?_⟩
        rw [Maps.atKey_put_same h.map.isMap (kl_is hn)]
        have := idx_new (S := S.map stp) (s := stp r) (by rw [hnv]; exact hk)
        rw [hnv] at this
        rw [this, List.length_map]
      · have hkne : kl m ≠ kl n := fun e => hnm (kl_inj e).symm
        rw [Maps.has_put_other hkne, show (n == m) = false by rw [beq_eq_false_iff_ne]; exact hnm, Bool.or_false]
        refine ⟨d1, fun hk2 => ?_⟩
        rw [Maps.atKey_put_other hkne, d2 hk2, idx_pre (List.prefix_append _ _) hk2] }
end
end Go.Proofs.YtjminjliomffaaaDoor

/- certificate.Find's closure: numbers are added one after another. -/
namespace Go.Proofs.YtjminjliomffaaaDoor
open Go.RowKit Num Go.Maps
set_option maxRecDepth 20000
set_option linter.unusedVariables false
theorem info_stepC : (Tryd.prog.info? 44).map (fun i => (i.zero, i.size, i.bytes)) = some (some (.agg #[.string ⟨#[]⟩, .string ⟨#[]⟩, .slice none 0 0]), 3, 56) := by kernel_rfl
theorem info_intC : (Tryd.prog.info? 3).map (fun i => (i.zero, i.size, i.bytes)) = some (some (.int .i64 0), 1, 8) := by kernel_rfl
theorem zeroIntC (w : World) : (zeroValue 3).run Tryd.prog w = .ok (.int .i64 0) w := by kernel_rfl
/-- the library's sort, as it is wanted -/
def SortC : Prop := ∀ (B blk cap : Nat) (zs : List Int) (w : World), w.ownsRow B 3 1 (.slice (some ⟨blk, 0, none⟩) zs.length cap) zs.length (zs.map (Value.int .i64)) → zs.length ≤ 1000000 →
  Calls Tryd.prog 34 #[.slice (some ⟨blk, 0, none⟩) zs.length cap] w fun e w' => e = .returned (.tuple #[]) ∧ w'.ownsRow B 3 1 (.slice (some ⟨blk, 0, none⟩) zs.length cap) zs.length ((zs.mergeSort fun x y => decide (x ≤ y)).map (Value.int .i64)) ∧ w.grownBy w' (some blk)
theorem own_weak {w : World} {B K e size n : Nat} {v : Value} {xs : List Value} (h : w.ownsRow K e size v n xs) (hB : B ≤ K) : w.ownsRow B e size v n xs := by
  rcases h with ⟨h0, h | ⟨g, cap, cur, h1, h2, h3, h4⟩⟩
  · exact ⟨h0, .inl h⟩
  · exact ⟨h0, .inr ⟨g, cap, cur, h1, Nat.le_trans hB h2, h3, h4⟩⟩
theorem own_form {w : World} {B e size n : Nat} {v : Value} {xs : List Value} (h : w.ownsRow B e size v n xs) : ∃ a c, v = .slice a n c := by
  rcases h.2 with ⟨rfl, rfl⟩ | ⟨g, cap, cur, rfl, _⟩
  · exact ⟨none, 0, rfl⟩
  · exact ⟨_, cap, rfl⟩
/-- where the factors of a step lie -/
def rowR (r : StR) : Option Nat := (Value.slice r.2.2.1 r.2.2.2.2.length r.2.2.2.1).ownBlock
/-- new steps have new rows -/
def FrS (w : World) (S S' : List StR) : Prop := ∀ r ∈ S', r ∈ S ∨ ∀ b, rowR r = some b → w.heap.size ≤ b
theorem FrS.refl (w : World) (S : List StR) : FrS w S S := fun r hr => .inl hr
theorem FrS.trans {a b : World} {S T U : List StR} (h : FrS a S T) (k : FrS b T U) (hz : a.heap.size ≤ b.heap.size) : FrS a S U := fun r hr => by
  rcases k r hr with h1 | h1
  · exact h r h1
  · exact .inr fun x hx => Nat.le_trans hz (h1 x hx)
/-- the variables of a round: the step under way lies at q, its factors are vf, all behind W0 -/
structure LV (w : World) (W0 : Nat) (P A vf v9 v' : Value) (q : Nat) (Q : List Nat) (G : List Int) (S : List StR) : Prop where
  s : w.heap[q]? = some (.cells #[P, A, vf] 44 (0, 0))
  hq : W0 ≤ q
  f : w.ownsRow W0 27 1 v9 Q.length (Q.map fun p => Value.string (enc p))
  g : w.ownsRow W0 3 1 vf G.length (G.map (Value.int .i64))
  ne : v'.ownBlock ≠ some q
  gne : ∀ r ∈ S, ∀ b, vf.ownBlock = some b → rowR r ≠ some b
section
variable {w w' : World} {B bi bs ba bm q W0 : Nat} {v v' v9 vf vg P A A' : Value} {S S' : List StR} {D : DataW Unit} {Q : List Nat} {G : List Int}
theorem FW.keepT (h : FW w B bi bs ba bm v S D) (f : Fr w w' bs bm v v') {g : Nat} {cur : Array Value} {t : TypeId} (hg : w.heap[g]? = some (.cells cur t (0, 0))) (h1 : t ≠ 31) (h2 : v.ownBlock ≠ some g) : w'.heap[g]? = w.heap[g]? := by
  obtain ⟨es, c, hmt⟩ := h.mapT
  exact f.block g (Array.getElem?_eq_some_iff.1 hg).1 (fun e => by rw [e, h.xs] at hg; cases hg; exact h1 rfl) (fun e => by rw [e, hmt] at hg; cases hg) h2
theorem FW.rowT_ne (h : FW w B bi bs ba bm v S D) {g : Nat} {cur : Array Value} {t : TypeId} (hg : w.heap[g]? = some (.cells cur t (0, 0))) (h1 : t ≠ 44) : v.ownBlock ≠ some g := fun e => by
  obtain ⟨cur', h'⟩ := h.rowT e
  rw [h'] at hg; cases hg; exact h1 rfl
theorem FW.keepO (h : FW w B bi bs ba bm v S D) (f : Fr w w' bs bm v v') {K e size m : Nat} {u : Value} {xs : List Value} (ho : w.ownsRow K e size u m xs) (h1 : e ≠ 31) (h2 : e ≠ 44) : w'.ownsRow K e size u m xs := by
  refine ownsRow_at ho fun g hg => ?_
  rcases ho.2 with ⟨rfl, _⟩ | ⟨g', cap, cur, rfl, _, hgg, _⟩
  · cases hg
  · cases hg
    exact h.keepT f hgg h1 (h.rowT_ne hgg h2)
theorem LV.fr (l : LV w W0 P A vf v9 v q Q G S) (h : FW w B bi bs ba bm v S D) (f : Fr w w' bs bm v v') (fs : FrS w S S') : LV w' W0 P A vf v9 v' q Q G S' where
  s := (h.keepT f l.s (by decide) l.ne).trans l.s
  hq := l.hq
  f := h.keepO f l.f (by decide) (by decide)
  g := h.keepO f l.g (by decide) (by decide)
  ne := by
    rcases f.loc with e | e
    · rw [e]; exact l.ne
    · intro e2
      have := e q e2
      have := (Array.getElem?_eq_some_iff.1 l.s).1
      omega
  gne := fun r hr b hb e => by
    rcases fs r hr with h1 | h1
    · exact l.gne r h1 b hb e
    · have := h1 b e
      have := (l.g.lt b hb).2
      omega
theorem LV.c0 (l : LV w W0 P A vf v9 v' q Q G S) : w.cell? ⟨q, 0, none⟩ = some P := by rw [Lib.cell_of_heap l.s]; rfl
theorem LV.c1 (l : LV w W0 P A vf v9 v' q Q G S) : w.cell? ⟨q, 1, none⟩ = some A := by rw [Lib.cell_of_heap l.s]; rfl
theorem LV.c2 (l : LV w W0 P A vf v9 v' q Q G S) : w.cell? ⟨q, 2, none⟩ = some vf := by rw [Lib.cell_of_heap l.s]; rfl
theorem Fr.behind (f : Fr w w' bs bm v v') {w2 : World} (h : Below w.heap.size w' w2) : Fr w w2 bs bm v v' :=
  ⟨h.os.trans f.os, h.tape.trans f.tape, h.output.trans f.output, Nat.le_trans f.size h.size, fun k hk h1 h2 h3 => (h.block k hk).trans (f.block k hk h1 h2 h3), f.loc⟩
/-- changes of the variables of the round alone -/
theorem FW.within (h : FW w B bi bs ba bm v S D) (l : LV w W0 P A vf v9 v q Q G S) (hW : B ≤ W0) (hB : Below W0 w w') (hk : ∀ g, g < w.heap.size → g ≠ q → vf.ownBlock ≠ some g → w'.heap[g]? = w.heap[g]?) : FW w' B bi bs ba bm v S D := by
  obtain ⟨es, c, hmt⟩ := h.mapT
  have ty : ∀ {g : Nat} {cur : Array Value} {t : TypeId}, w.heap[g]? = some (.cells cur t (0, 0)) → t ≠ 3 → vf.ownBlock ≠ some g := fun hg ht => row_ne l.g fun cur => by
    rw [hg]; intro e; cases e; exact ht rfl
  have tq : ∀ {g : Nat} {cur : Array Value} {t : TypeId}, w.heap[g]? = some (.cells cur t (0, 0)) → t ≠ 44 → g ≠ q := fun hg ht e => by
    rw [e, l.s] at hg; cases hg; exact ht rfl
  have kp : ∀ {g : Nat} {cur : Array Value} {t : TypeId}, w.heap[g]? = some (.cells cur t (0, 0)) → t ≠ 3 → t ≠ 44 → w'.heap[g]? = w.heap[g]? := fun hg h1 h2 => hk _ (Array.getElem?_eq_some_iff.1 hg).1 (tq hg h2) (ty hg h1)
  exact {
    xi := (kp h.xi (by decide) (by decide)).trans h.xi
    xs := (kp h.xs (by decide) (by decide)).trans h.xs
    xa := (kp h.xa (by decide) (by decide)).trans h.xa
    own := ownsRow_at h.own fun g hg => by
      obtain ⟨cur, hc⟩ := h.rowT hg
      exact hk g (Array.getElem?_eq_some_iff.1 hc).1 (fun e => l.ne (e ▸ hg)) (ty hc (by decide))
    fs := fun r hr => by
      have hf := h.fs r hr
      unfold FR at hf ⊢
      refine ownsRow_at hf fun g hg => ?_
      rcases hf.2 with ⟨e, _⟩ | ⟨g', cap, cur, e, _, hgg, _⟩
      · rw [e] at hg; cases hg
      · rw [e] at hg; cases hg
        refine hk _ (Array.getElem?_eq_some_iff.1 hgg).1 (tq hgg (by decide)) fun e2 => l.gne r hr _ e2 ?_
        unfold rowR; rw [e]; rfl
    map := by
      obtain ⟨es', c', h1, h2⟩ := h.map
      refine ⟨es', c', ?_, h2⟩
      rw [hk bm (Array.getElem?_eq_some_iff.1 h1).1 (fun e => by rw [e, l.s] at h1; cases h1) (row_ne l.g fun cur => by rw [h1]; intro e; cases e)]
      exact h1
    hi := h.hi
    hs := h.hs
    ha := h.ha
    hm := h.hm
    hg := h.hg
    tab := tab_belowB h.tab hB (Nat.lt_of_lt_of_le h.hg hW)
    dk := h.dk }
end
/-- what a call of the closure does -/
def AP (w : World) (B bi bs ba bm : Nat) (v : Value) (S : List StR) (n : Nat) : Ending → World → Prop := fun e w' => ∃ (E : Int) (S' : List StR) (v' : Value) (D' : DataW Unit), e = .returned (.int .i64 E) ∧ AddL [n] (S.map stp) E (S'.map stp) ∧ FW w' B bi bs ba bm v' S' D' ∧ Fr w w' bs bm v v' ∧ FrS w S S'
theorem AP.mono {w w2 : World} {B bi bs ba bm n : Nat} {v : Value} {S : List StR} {e : Ending} {w' : World} (h : AP w2 B bi bs ba bm v S n e w') (f : Fr w w2 bs bm v v) : AP w B bi bs ba bm v S n e w' := by
  obtain ⟨E, S', v', D', h1, h2, h3, h4, h5⟩ := h
  exact ⟨E, S', v', D', h1, h2, h3, f.trans h4, fun r hr => by
    rcases h5 r hr with h6 | h6
    · exact .inl h6
    · exact .inr fun b hb => Nat.le_trans f.size (h6 b hb)⟩
theorem step_oneCell (s t : ByteArray) (a : Option Addr) (k c : Nat) : ∀ u ∈ [Value.string s, .string t, .slice a k c], u.oneCell' = true := by
  intro u hu
  simp only [List.mem_cons, List.not_mem_nil, or_false] at hu
  rcases hu with rfl | rfl | rfl <;> rfl
theorem three_cells {w : World} {a b c : Value} {t : TypeId} : ∀ j u, [a, b, c][j]? = some u → (w.alloc (.cells #[a, b, c] t)).cell? ((⟨w.heap.size, 0, none⟩ : Addr).add j) = some u := by
  intro j u hj
  rw [Go.WideShapes.add_plain, new_cell0]
  rw [← hj, Nat.zero_add]
  simp
/-- between the map's store and the variable's -/
theorem FW.mid {w w1 w3 : World} {B bi bs ba bm : Nat} {v : Value} {S : List StR} {D : DataW Unit} (h : FW w B bi bs ba bm v S D) (hg1 : w.grownBy w1 (some bm)) :
    w1.heap[bs]? = some (.cells #[v] 31 (0, 0)) ∧ w1.ownsRow B 44 3 v S.length (cellsS S) ∧
    ∀ (o : Obj), (w1.alloc o).grownBy w3 v.ownBlock → w3.heap[bs]? = some (.cells #[v] 31 (0, 0)) := by
  obtain ⟨es, c, hmt⟩ := h.mapT
  have zs := (Array.getElem?_eq_some_iff.1 h.xs).1
  have e5 : bs ≠ bm := fun e => by have := h.xs; rw [e, hmt] at this; cases this
  have r3 : v.ownBlock ≠ some bs := row_ne h.own fun cur => by rw [h.xs]; intro e; cases e
  have r4 : v.ownBlock ≠ some bm := row_ne h.own fun cur => by rw [hmt]; intro e; cases e
  have x1 : w1.heap[bs]? = some (.cells #[v] 31 (0, 0)) := (hg1.block bs zs (by intro e; injection e with e; exact e5 e)).trans h.xs
  have z1 := hg1.size
  refine ⟨x1, ownsRow_at h.own fun g hg => hg1.block g (h.own.lt g hg).2 (fun e => r4 (by rw [hg, e])), fun o hg3 => ?_⟩
  rw [hg3.block bs (by rw [World.size_alloc]; omega) (fun e => r3 e.symm), Below.heap_alloc w1 o bs (by omega)]
  exact x1
set_option maxHeartbeats 8000000 in
theorem add_known (n : Nat) (hn : blen n ≤ 128) (w : World) (B bi bs ba bm : Nat) (v : Value) (S : List StR) (D : DataW Unit) (h : FW w B bi bs ba bm v S D) (hk : knownB (S.map stp) n = true) :
    Calls Tryd.prog 27 #[.string (enc n), .pointer (some ⟨bi, 0, none⟩), .pointer (some ⟨bs, 0, none⟩), .pointer (some ⟨ba, 0, none⟩)] w (AP w B bi bs ba bm v S n) := by
  have c1 := h.ci
  have hd := (h.dk n hn).1.trans hk
  have hP : AP w B bi bs ba bm v S n (.returned (.int .i64 0)) w := ⟨0, S, v, D, rfl, .known hk (.nil _), h, Fr.refl _ _ _ _, FrS.refl _ _⟩
  have HP := Lib.hid hP
  have HM := Lib.hid h.map
  have HK := Lib.hid (kl_key hn)
  clear h hk hP
  go_enter Tryd.func27, Tryd.ntmps27
  go_wp2_with (at_lookup; refine wpList_lookup_own_ok_int _ rfl _ _ 59 rfl 27 3 .i64 keyedC Tryd.underlying59 Tryd.underlying3 (zeroIntC _) bm S.length D rfl HM.out _ _ rfl HK.out ?_; intro c hat hwc; rw [hd])
  go_ret
  exact HP.out
set_option maxHeartbeats 8000000 in
theorem add_tiny (n : Nat) (hn : blen n ≤ 128) (w : World) (B bi bs ba bm : Nat) (v : Value) (S : List StR) (D : DataW Unit) (h : FW w B bi bs ba bm v S D) (hk : knownB (S.map stp) n = false) (ht : tinyB n = true) (hS : S.length ≤ 1000000) :
    Calls Tryd.prog 27 #[.string (enc n), .pointer (some ⟨bi, 0, none⟩), .pointer (some ⟨bs, 0, none⟩), .pointer (some ⟨ba, 0, none⟩)] w (AP w B bi bs ba bm v S n) := by
  obtain ⟨i0, hi, hz0, hz1, hz2⟩ := info_parts info_stepC
  have c1 := h.ci
  have hd := (h.dk n hn).1.trans hk
  have HT := Lib.hid (fun w (h : Tab w) => by
    have := ceTiny_any (enc n) n w (IsN.mk' hn) h
    unfold tinyB at ht
    rw [ht] at this
    exact this : ∀ w, Tab w → Calls Tryd.prog 28 #[.string (enc n)] w fun e w' => e = .returned (.bool true) ∧ Below w.heap.size w w')
  have HM := Lib.hid h.map
  have HK := Lib.hid (kl_key hn)
  have HH := Lib.hid h
  have HQ := Lib.hid (And.intro hk ht)
  clear h hk
  go_enter Tryd.func27, Tryd.ntmps27
  go_wp2_with (at_lookup; refine wpList_lookup_own_ok_int _ rfl _ _ 59 rfl 27 3 .i64 keyedC Tryd.underlying59 Tryd.underlying3 (zeroIntC _) bm S.length D rfl HM.out _ _ rfl HK.out ?_; intro c hat hwc; rw [hd])
  refine (HT.out _ HH.out.tab).mono ?_; rintro e w0 ⟨rfl, b0⟩
  have h0 := HH.out.grow b0
  have f0 := Fr.of_below b0 bs bm v
  obtain ⟨a, c, rfl⟩ := own_form h0.own
  obtain ⟨m, hm⟩ : ∃ m, S.length = m := ⟨_, rfl⟩
  rw [hm] at hS
  have d1 := h0.ci
  have d2 := h0.cs
  have H0 := Lib.hid h0
  have HMM := Lib.hid h0.map
  rw [hm] at d2 HMM
  have HWF : Hid ((Lit.int .i64 (m : Int)).wf = true) := by show _ = _; simp [Lit.wf, IntKind.min, IntKind.max, IntKind.signed, IntKind.bits]; omega
  have hb0 := h0.size
  clear h0 c1 hat hwc
  go_wp2_with (first
    | (at_mapUpdate; refine wpList_mapUpdate_own _ rfl _ _ _ 59 rfl 27 3 keyedC Tryd.underlying59 (plainElem Tryd.prog 3) bm m D rfl HMM.out (by unfold maxLen; omega) _ _ _ rfl rfl HK.out _ [] (plainElem_int Tryd.underlying3 HWF.out) ?_; intro w1 hown1 hgrow1; have d3 : w1.cell? ⟨bs, 0, none⟩ = some (.slice a m c) := (by rw [Lib.cell_of_heap (H0.out.mid (w3 := w1) hgrow1).1, hm]; rfl); have HO1 := Lib.hid (H0.out.mid (w3 := w1) hgrow1).2.1; rw [hm] at HO1; have z1 := hgrow1.size)
    | (at_builtin; refine wpList_append_own_at _ rfl (.tmp 29) (.tmp 32) 31 rfl B 44 i0 (.agg #[.string ⟨#[]⟩, .string ⟨#[]⟩, .slice none 0 0]) 3 56 Tryd.underlying31 hi hz0 hz1 hz2 rfl (by decide) (.slice a m c) m (cellsS S) rfl (HO1.out.alloc _) ⟨w1.heap.size, 0, none⟩ 1 1 [.string (enc n), .string ⟨#[]⟩, .slice none 0 0] rfl rfl three_cells (step_oneCell _ _ _ _ _) (by unfold maxLen; omega) (by omega) (by simp; omega) ?_))
  intro v' w3 hown3 hgrow3 _ hloc
  subst hm
  obtain ⟨a', c', rfl⟩ := own_form hown3
  have HX3 := (H0.out.mid hgrow1).2.2 _ hgrow3
  have HPU := H0.out.push hn HQ.out.1 (r := (enc n, ⟨#[]⟩, none, 0, [])) rfl ⟨rfl, .inl ⟨rfl, rfl⟩⟩ hgrow1 hown1 _ hgrow3 hloc hown3
  have hP : AP w B bi bs ba bm (.slice a S.length c) S n (.returned (.int .i64 0)) (w3.setCell ⟨bs, 0, none⟩ (.slice a' (S.length + 1) c')) :=
    ⟨0, _, _, _, rfl, by rw [List.map_append]; exact .tiny HQ.out.1 HQ.out.2 (.nil _), HPU.1, f0.trans HPU.2, fun r hr => by
      rcases List.mem_append.1 hr with h1 | h1
      · exact .inl h1
      · rw [List.mem_singleton.1 h1]; exact .inr fun b hb => by cases hb⟩
  have HP := Lib.hid hP
  have x5 : w3.cell? ⟨bs, 0, none⟩ = some (.slice a S.length c) := by rw [Lib.cell_of_heap HX3]; rfl
  have x6 : w3.frozen? ⟨bs, 0, none⟩ = false := Lib.frozen_of_heap HX3 0
  clear HX3 HPU hP hown1 hown3 hgrow3 hloc hgrow1 HH H0 HMM HM d1 d2 d3 HO1
  go_wp2_with fail
  go_ret
  exact HP.out
end Go.Proofs.YtjminjliomffaaaDoor

/- certificate.Find's closure: the step with factors. -/
namespace Go.Proofs.YtjminjliomffaaaDoor
open Go.RowKit Num Go.Maps
set_option maxRecDepth 20000
set_option linter.unusedVariables false
theorem pow1024 {n : Nat} (h : blen n ≤ 128) : n < 2 ^ 1024 := by
  have h1 := (blen_le_iff n 128).1 h
  have h2 : (256 : Nat) ^ 128 = 2 ^ 1024 := by decide +kernel
  omega
theorem facs_even {n : Nat} (hp : probB n = true) (hb : n < 2 ^ 1024) : 0 < (facs n).length := by
  have hbig := probB_big hp
  have hodd := probB_odd hp
  obtain ⟨h1, h2, h3, h4, h5⟩ := spl_spec (n := n - 1) (by omega) (by omega)
  have hmem : 2 ∈ (spl (n - 1)).1 := h5 2 (by omega) isP2 (Nat.dvd_of_mod_eq_zero (by omega))
  refine List.length_pos_of_mem (a := 2) ?_
  unfold facs
  split
  · exact List.mem_append_left _ hmem
  · exact hmem
/-- a factor's index is laid behind the others -/
theorem LV.push {w w1 : World} {B bi bs ba bm q W0 : Nat} {v v9 vf vg P A : Value} {S : List StR} {D : DataW Unit} {Q : List Nat} {G : List Int} (l : LV w W0 P A vf v9 v q Q G S) (h : FW w B bi bs ba bm v S D) (hW : B ≤ W0) (hz : W0 ≤ w.heap.size) {x : Int}
    (o : Obj) (hg : (w.alloc o).grownBy w1 vf.ownBlock) (hloc : vg.ownBlock = vf.ownBlock ∨ vg.ownBlock = some (w.heap.size + 1)) (ho : w1.ownsRow W0 3 1 vg (G.length + 1) (G.map (Value.int .i64) ++ [.int .i64 x])) :
    w1.heap[q]? = some (.cells #[P, A, vf] 44 (0, 0)) ∧ FW (w1.setCell ⟨q, 2, none⟩ vg) B bi bs ba bm v S D ∧ LV (w1.setCell ⟨q, 2, none⟩ vg) W0 P A vg v9 v q Q (G ++ [x]) S ∧ Below W0 w (w1.setCell ⟨q, 2, none⟩ vg) := by
  have zq := (Array.getElem?_eq_some_iff.1 l.s).1
  have rq : vf.ownBlock ≠ some q := row_ne l.g fun cur => by rw [l.s]; intro e; cases e
  have s1 : w1.heap[q]? = some (.cells #[P, A, vf] 44 (0, 0)) := by
    rw [hg.block q (by rw [World.size_alloc]; omega) (fun e => rq e.symm), Below.heap_alloc w o q zq]
    exact l.s
  have kp : ∀ g, g < w.heap.size → g ≠ q → vf.ownBlock ≠ some g → (w1.setCell ⟨q, 2, none⟩ vg).heap[g]? = w.heap[g]? := fun g h1 h2 h3 => by
    rw [Below.heap_setCell _ _ _ _ h2, hg.block g (by rw [World.size_alloc]; omega) (fun e => h3 e.symm), Below.heap_alloc w o g h1]
  have hb : Below W0 w (w1.setCell ⟨q, 2, none⟩ vg) := (((Below.refl W0 w).alloc hz o).grown hg (by rw [World.size_alloc]; omega) (fun k e => (l.g.lt k e).1)).setCell (p := ⟨q, 2, none⟩) l.hq _
  have rg : vg.ownBlock ≠ some q := by
    rcases hloc with e | e
    · rw [e]; exact rq
    · rw [e]; intro e; injection e with e; omega
  refine ⟨s1, h.within l hW hb kp, ⟨?_, l.hq, ?_, ?_, l.ne, ?_⟩, hb⟩
  · exact put1' s1
  · refine ownsRow_at l.f fun g hg' => ?_
    rcases l.f.2 with ⟨e, _⟩ | ⟨g', cap, cur, e, _, hgg, _⟩
    · rw [e] at hg'; cases hg'
    · rw [e] at hg'; cases hg'
      exact kp _ (Array.getElem?_eq_some_iff.1 hgg).1 (fun e2 => by have e3 : g' = q := e2; rw [e3, l.s] at hgg; cases hgg) (row_ne l.g fun cur' => by rw [hgg]; intro e2; cases e2)
  · have := ownsRow_at (w' := w1.setCell ⟨q, 2, none⟩ vg) ho fun g hg' => Below.heap_setCell _ _ _ _ (fun e => rg (by rw [hg', e]))
    rw [List.length_append, List.map_append]
    exact this
  · intro r hr b hb' e
    rcases hloc with e2 | e2
    · exact l.gne r hr b (e2 ▸ hb') e
    · rw [e2] at hb'; injection hb' with hb'
      have := (h.fs r hr).lt b e
      omega
theorem LV.qm {w : World} {B bi bs ba bm q W0 : Nat} {v v9 vf P A : Value} {S : List StR} {D : DataW Unit} {Q : List Nat} {G : List Int} (l : LV w W0 P A vf v9 v q Q G S) (h : FW w B bi bs ba bm v S D) : q ≠ bm := fun e => by
  obtain ⟨es, c, hmt⟩ := h.mapT
  have := l.s
  rw [e, hmt] at this; cases this
/-- the base is laid -/
theorem LV.base {w : World} {B bi bs ba bm q W0 : Nat} {v v9 vf P A : Value} {S : List StR} {D : DataW Unit} {Q : List Nat} {G : List Int} (l : LV w W0 P A vf v9 v q Q G S) (h : FW w B bi bs ba bm v S D) (hW : B ≤ W0) (u : Value) :
    FW (w.setCell ⟨q, 1, none⟩ u) B bi bs ba bm v S D ∧ LV (w.setCell ⟨q, 1, none⟩ u) W0 P u vf v9 v q Q G S ∧ Below W0 w (w.setCell ⟨q, 1, none⟩ u) := by
  have hb : Below W0 w (w.setCell ⟨q, 1, none⟩ u) := (Below.refl W0 w).setCell (p := ⟨q, 1, none⟩) l.hq _
  have kp : ∀ g, g ≠ q → (w.setCell ⟨q, 1, none⟩ u).heap[g]? = w.heap[g]? := fun g h2 => Below.heap_setCell _ _ _ _ h2
  have tq : ∀ {K e size m : Nat} {y : Value} {xs : List Value}, w.ownsRow K e size y m xs → e ≠ 44 → (w.setCell ⟨q, 1, none⟩ u).ownsRow K e size y m xs := fun ho he => ownsRow_at ho fun g hg => kp g fun e2 => row_ne ho (k := q) (fun cur => by rw [l.s]; intro e3; cases e3; exact he rfl) (by rw [hg, e2])
  exact ⟨h.within l hW hb fun g _ h2 _ => kp g h2, ⟨put1' l.s, l.hq, tq l.f (by decide), tq l.g (by decide), l.ne, l.gne⟩, hb⟩
/-- the indices are sorted -/
theorem LV.sorted {w w1 : World} {B bi bs ba bm q W0 : Nat} {v v9 vf P A : Value} {S : List StR} {D : DataW Unit} {Q : List Nat} {G G' : List Int} (l : LV w W0 P A vf v9 v q Q G S) (h : FW w B bi bs ba bm v S D) (hW : B ≤ W0) (hz : W0 ≤ w.heap.size) (hl : G'.length = G.length)
    (hg : w.grownBy w1 vf.ownBlock) (ho : w1.ownsRow W0 3 1 vf G.length (G'.map (Value.int .i64))) :
    FW w1 B bi bs ba bm v S D ∧ LV w1 W0 P A vf v9 v q Q G' S ∧ Below W0 w w1 := by
  have zq := (Array.getElem?_eq_some_iff.1 l.s).1
  have rq : vf.ownBlock ≠ some q := row_ne l.g fun cur => by rw [l.s]; intro e; cases e
  have hb : Below W0 w w1 := (Below.refl W0 w).grown hg hz (fun k e => (l.g.lt k e).1)
  have kp : ∀ g, g < w.heap.size → vf.ownBlock ≠ some g → w1.heap[g]? = w.heap[g]? := fun g h1 h3 => hg.block g h1 (fun e => h3 e.symm)
  refine ⟨h.within l hW hb fun g h1 _ h3 => kp g h1 h3, ⟨(kp q zq rq).trans l.s, l.hq, ?_, by rw [hl]; exact ho, l.ne, l.gne⟩, hb⟩
  refine ownsRow_at l.f fun g hg' => ?_
  rcases l.f.2 with ⟨e, _⟩ | ⟨g', cap, cur, e, _, hgg, _⟩
  · rw [e] at hg'; cases hg'
  · rw [e] at hg'; cases hg'
    exact kp _ (Array.getElem?_eq_some_iff.1 hgg).1 (row_ne l.g fun cur' => by rw [hgg]; intro e2; cases e2)
theorem row_str {w : World} {K M c : Nat} {a : Option Addr} {Q : List Nat} (h : w.ownsRow K 27 1 (.slice a M c) Q.length (Q.map fun p => Value.string (enc p))) {k : Nat} (hk : k < Q.length) : ∃ b, a = some ⟨b, 0, none⟩ ∧ w.cell? ⟨b, k, none⟩ = some (.string (enc Q[k])) := by
  have h' := h
  rcases h.2 with ⟨_, h0⟩ | ⟨g, cap, cur, e, _, _, _⟩
  · omega
  · injection e with e1 e2 e3
    subst e1 e2 e3
    refine ⟨g, rfl, ?_⟩
    rw [h'.cellAt k (by omega)]
    simp [hk]
set_option maxHeartbeats 8000000 in
theorem add_bad (n : Nat) (hn : blen n ≤ 128) (w : World) (B bi bs ba bm : Nat) (v : Value) (S : List StR) (D : DataW Unit) (h : FW w B bi bs ba bm v S D) (hk : knownB (S.map stp) n = false) (ht : tinyB n = false) (hp : probB n = false) :
    Calls Tryd.prog 27 #[.string (enc n), .pointer (some ⟨bi, 0, none⟩), .pointer (some ⟨bs, 0, none⟩), .pointer (some ⟨ba, 0, none⟩)] w (AP w B bi bs ba bm v S n) := by
  have c1 := h.ci
  have hd := (h.dk n hn).1.trans hk
  have HT := Lib.hid (fun w (h : Tab w) => by
    have := ceTiny_any (enc n) n w (IsN.mk' hn) h
    unfold tinyB at ht
    rw [ht] at this
    exact this : ∀ w, Tab w → Calls Tryd.prog 28 #[.string (enc n)] w fun e w' => e = .returned (.bool false) ∧ Below w.heap.size w w')
  have HPn := Lib.hid (fun w => by
    have := ceProbable_any (enc n) n w (IsN.mk' hn)
    rw [hp] at this
    exact this : ∀ w, Calls Tryd.prog 29 #[.string (enc n)] w fun e w' => e = .returned (.bool false) ∧ Below w.heap.size w w')
  have HM := Lib.hid h.map
  have HK := Lib.hid (kl_key hn)
  have HH := Lib.hid h
  have HQ := Lib.hid (And.intro hk (And.intro ht hp))
  clear h hk ht hp
  go_enter Tryd.func27, Tryd.ntmps27
  go_wp2_with (at_lookup; refine wpList_lookup_own_ok_int _ rfl _ _ 59 rfl 27 3 .i64 keyedC Tryd.underlying59 Tryd.underlying3 (zeroIntC _) bm S.length D rfl HM.out _ _ rfl HK.out ?_; intro c hat hwc; rw [hd])
  refine (HT.out _ HH.out.tab).mono ?_; rintro e w0 ⟨rfl, b0⟩
  go_wp2_with fail
  refine (HPn.out _).mono ?_; rintro e w1 ⟨rfl, b1⟩
  have b2 := b0.trans (b1.mono b0.size)
  have hP : AP w B bi bs ba bm v S n (.returned (.int .i64 12)) w1 := ⟨12, S, v, D, rfl, .bad HQ.out.1 HQ.out.2.1 HQ.out.2.2, HH.out.grow b2, Fr.of_below b2 _ _ _, FrS.refl _ _⟩
  have HP := Lib.hid hP
  clear hP
  go_wp2_with fail
  go_ret
  exact HP.out
set_option maxHeartbeats 16000000 in
theorem add_step (HSORT : SortC) (n : Nat) (hn : blen n ≤ 128) (w : World) (B bi bs ba bm : Nat) (v : Value) (S : List StR) (D : DataW Unit) (h : FW w B bi bs ba bm v S D) (hk : knownB (S.map stp) n = false) (ht : tinyB n = false) (hp : probB n = true) (hS : S.length + wt n ≤ 500000)
    (IH : ∀ f, f < n → ∀ (w : World) (v : Value) (S : List StR) (D : DataW Unit), FW w B bi bs ba bm v S D → S.length + wt f ≤ 500000 → Calls Tryd.prog 27 #[.string (enc f), .pointer (some ⟨bi, 0, none⟩), .pointer (some ⟨bs, 0, none⟩), .pointer (some ⟨ba, 0, none⟩)] w (AP w B bi bs ba bm v S f)) :
    Calls Tryd.prog 27 #[.string (enc n), .pointer (some ⟨bi, 0, none⟩), .pointer (some ⟨bs, 0, none⟩), .pointer (some ⟨ba, 0, none⟩)] w (AP w B bi bs ba bm v S n) := by
  obtain ⟨i0, hi, hz0, hz1, hz2⟩ := info_parts info_stepC
  obtain ⟨i1, hj, hy0, hy1, hy2⟩ := info_parts info_natC
  obtain ⟨i2, hl, hx0, hx1, hx2⟩ := info_parts info_intC
  have hn24 := pow1024 hn
  have hbig := probB_big hp
  have c1 := h.ci
  have hd := (h.dk n hn).1.trans hk
  have isn : IsN (enc n) n := IsN.mk' hn
  have ism : IsN (enc (n - 1)) (n - 1) := IsN.mk' (Nat.le_trans (blen_mono (by omega)) hn)
  have HT := Lib.hid (fun w (h : Tab w) => by
    have := ceTiny_any (enc n) n w isn h
    unfold tinyB at ht
    rw [ht] at this
    exact this : ∀ w, Tab w → Calls Tryd.prog 28 #[.string (enc n)] w fun e w' => e = .returned (.bool false) ∧ Below w.heap.size w w')
  have HPn := Lib.hid (fun w => by
    have := ceProbable_any (enc n) n w isn
    rw [hp] at this
    exact this : ∀ w, Calls Tryd.prog 29 #[.string (enc n)] w fun e w' => e = .returned (.bool true) ∧ Below w.heap.size w w')
  have HLs := Lib.hid (fun w => ceLess_any (enc n) n w isn (by omega))
  have HSp := (fun w => ceSplit_any (enc (n - 1)) (n - 1) w ism (by omega))
  obtain ⟨s1, s2, s3, s4, s5⟩ := spl_spec (n := n - 1) (by omega) (by omega)
  have hr1 : (spl (n - 1)).2 ≤ n - 1 := Nat.le_of_dvd (by omega) (Nat.dvd_trans (Nat.dvd_mul_left _ _) s3)
  have hLl : (spl (n - 1)).1.length ≤ 500000 := by
    have h1 := wts_small (spl (n - 1)).1 (fun q hq => (s1 q hq).2.1)
    have h2 := facs_wt hp hn24
    have h3 : wts (spl (n - 1)).1 ≤ wts (facs n) := by unfold facs; split; rw [wts_app]; omega; exact Nat.le_refl _
    omega
  have HPr := (fun w => ceProbable_any (enc (spl (n - 1)).2) (spl (n - 1)).2 w (IsN.mk' (Nat.le_trans (blen_mono (by omega)) hn)))
  have hfm : ∀ q ∈ facs n, 2 ≤ q ∧ blen q ≤ 128 := fun q hq => by
    obtain ⟨a1, a2, a3⟩ := facs_mem (by omega) hn24 hq
    exact ⟨a1, Nat.le_trans (blen_mono (Nat.le_of_lt a3)) hn⟩
  have hfl : (facs n).length ≤ 100000 := by
    have h1 := facs_len hp hn24
    have h2 : Nat.log2 n < 1024 := by rw [Nat.log2_lt (by omega)]; exact hn24
    omega
  have hf0 := facs_even hp hn24
  have HWT := Lib.hid (facs_wt hp hn24)
  have hPF : partF (facs n) (n - 1) 1 ≤ n - 1 := partF_le (fun q hq => by have := (hfm q hq).1; omega) (by omega)
  have HPart := (fun w v hv => cePart_any (enc (n - 1)) (n - 1) v (facs n) w ism (by omega) hv hfm (by omega))
  have HEn := (fun w => ceEnough_any (enc (partF (facs n) (n - 1) 1)) (enc n) (partF (facs n) (n - 1) 1) n w (IsN.mk' (Nat.le_trans (blen_mono (by omega)) hn)) isn)
  have HBs := Lib.hid (fun w v hv => ceBase_any (enc n) n v (facs n) w isn (by omega) hv hfm (by omega))
  have hFE : facs n = if probB (spl (n - 1)).2 = true then (spl (n - 1)).1 ++ [(spl (n - 1)).2] else (spl (n - 1)).1 := rfl
  have HLT := Lib.hid (fun q (hq : q ∈ facs n) => (facs_mem (by omega) hn24 hq).2.2)
  have hen : enoughB n = decide (n < partF (facs n) (n - 1) 1 * partF (facs n) (n - 1) 1) := rfl
  rw [← hen] at HEn
  obtain ⟨PF, hPFe⟩ : ∃ PF, partF (facs n) (n - 1) 1 = PF := ⟨_, rfl⟩
  simp only [hPFe] at HPart HEn
  obtain ⟨EN, hEN⟩ : ∃ EN, enoughB n = EN := ⟨_, rfl⟩
  rw [hEN] at HEn
  obtain ⟨L, hL⟩ : ∃ L, (spl (n - 1)).1 = L := ⟨_, rfl⟩
  obtain ⟨r, hr⟩ : ∃ r, (spl (n - 1)).2 = r := ⟨_, rfl⟩
  obtain ⟨Rb, hRb⟩ : ∃ Rb, probB r = Rb := ⟨_, rfl⟩
  rw [hL] at hFE hLl
  rw [hr] at hFE HPr
  rw [hRb] at hFE HPr
  simp only [hL, hr] at HSp
  have HFM := Lib.hid hfm
  obtain ⟨Q, hQ⟩ : ∃ Q, facs n = Q := ⟨_, rfl⟩
  rw [hQ] at hFE HPart HBs hfl hf0 HWT HLT HFM
  have HSp := Lib.hid HSp
  have HPr := Lib.hid HPr
  have HPart := Lib.hid HPart
  have HEn := Lib.hid HEn
  have HFE := Lib.hid hFE
  have HQF := Lib.hid hQ
  have HM := Lib.hid h.map
  have HK := Lib.hid (kl_key hn)
  have HH := Lib.hid h
  have HC := Lib.hid (And.intro hk (And.intro ht (And.intro hp hEN)))
  have HIH := Lib.hid IH
  have HBN := Lib.hid hn
  have zW := h.size
  clear h hk ht hp hn24 isn ism s1 s2 s3 s4 s5 hr1 hfm hPF hPFe hFE hen hL hr hRb hEN hQ IH hn
  go_enter Tryd.func27, Tryd.ntmps27
  go_wp2_with (at_lookup; refine wpList_lookup_own_ok_int _ rfl _ _ 59 rfl 27 3 .i64 keyedC Tryd.underlying59 Tryd.underlying3 (zeroIntC _) bm S.length D rfl HM.out _ _ rfl HK.out ?_; intro c hat hwc; rw [hd])
  refine (HT.out _ HH.out.tab).mono ?_; rintro e w0 ⟨rfl, b0⟩
  go_wp2_with fail
  refine (HPn.out _).mono ?_; rintro e w1 ⟨rfl, b1⟩
  replace b1 := b0.trans (b1.mono b0.size)
  go_wp2_with fail
  refine (HLs.out _).mono ?_; rintro e w2 ⟨rfl, b2⟩
  replace b2 := b1.trans (b2.mono b1.size)
  go_wp2_with fail
  refine (HSp.out _).mono ?_; rintro e w3 ⟨⟨v9, rfl, o9⟩, b3⟩
  replace b3 := b2.trans (b3.mono b2.size)
  replace o9 := own_weak o9 b2.size
  clear b0 b1 b2 hd c1 HT HPn HLs HSp HM hat hwc
  go_wp2_with fail
  refine (HPr.out _).mono ?_; rintro e w4 ⟨rfl, b4⟩
  replace o9 := ownbC o9 b4
  replace b4 := b3.trans (b4.mono b3.size)
  clear b3 HPr
  cases Rb
  rotate_left
  go_wp2_with (at_builtin; refine wpList_append_own _ rfl (.tmp 46) (.tmp 48) 55 rfl w.heap.size 27 i1 (.string ⟨#[]⟩) 1 16 Tryd.underlying55 hj hy0 hy1 hy2 rfl (by decide) v9 L.length (L.map fun p => Value.string (enc p)) rfl (o9.alloc _) ⟨w4.heap.size, 0, none⟩ 1 1 [.string (enc r)] rfl rfl (one_cellC (new_cell0 _ _ _ _)) (by simp [Value.oneCell']) (by unfold maxLen; omega) (by omega) (by simp; have := b4.size; omega) ?_)
  intro v9' w5 hown5 hgrow5 _
  have b5 : Below w.heap.size w w5 := (b4.alloc b4.size (.cells #[.string (enc r)] 27)).grown hgrow5 (by simp; have := b4.size; omega) (fun k e => (o9.lt k e).1)
  have hQL : Q = L ++ [r] := by simpa using HFE.out
  have o5 : w5.ownsRow w.heap.size 27 1 v9' Q.length (Q.map fun p => Value.string (enc p)) := by rw [hQL, List.length_append, List.map_append]; exact hown5
  clear hown5 hgrow5 o9 b4 hQL HFE
  go_wp2_with fail
  rotate_left
  have b5 := b4
  have hQL : Q = L := by simpa using HFE.out
  have o5 := o9
  rw [← hQL] at o5
  clear o9 b4 hQL HFE
  go_wp2_with fail
  all_goals
    have hSL := SL.of_own (L := Q.map enc) (by rw [List.length_map, List.map_map]; exact o5)
    refine (HPart.out _ _ hSL).mono ?_; rintro e w6 ⟨rfl, b6⟩
    have o6 := ownbC o5 b6
    replace b6 := b5.trans (b6.mono b5.size)
    go_wp2_with fail
    refine (HEn.out _).mono ?_; rintro e w7 ⟨rfl, b7⟩
    have o7 := ownbC o6 b7
    replace b7 := b6.trans (b7.mono b6.size)
    clear b5 b6 o5 o6 hSL HPart HEn
    have h7 := HH.out.grow b7
    cases EN
    · have hP : AP w B bi bs ba bm v S n (.returned (.int .i64 9)) w7 := ⟨9, S, v, D, rfl, .few HC.out.1 HC.out.2.1 HC.out.2.2.1 HC.out.2.2.2, h7, Fr.of_below b7 _ _ _, FrS.refl _ _⟩
      have HP := Lib.hid hP
      clear hP
      go_wp2_with fail
      go_ret
      exact HP.out
    · obtain ⟨a9, c9, hv9⟩ := own_form o7
      obtain ⟨N, hN⟩ : ∃ N, Q.length = N := ⟨_, rfl⟩
      rw [hN] at hv9 hfl hf0
      subst hv9
      have q0 := (Below.refl w7.heap.size w7).alloc (Nat.le_refl _) (.cells #[.string (enc n), .string ⟨#[]⟩, .slice none 0 0] 44)
      have b8 := b7.alloc b7.size (.cells #[.string (enc n), .string ⟨#[]⟩, .slice none 0 0] 44)
      have h8 := h7.grow q0
      have l8 : LV (w7.alloc (.cells #[.string (enc n), .string ⟨#[]⟩, .slice none 0 0] 44)) w.heap.size (.string (enc n)) (.string ⟨#[]⟩) (.slice none 0 0) (.slice a9 N c9) v w7.heap.size Q [] S :=
        ⟨heap_alloc_new w7 _, b7.size, ownbC o7 q0, World.ownsRow_nil _ _ _ _, (fun e => by have := (h7.row _ e).2; omega), (fun r hr b e => by cases e)⟩
      have f8 := Fr.of_below b8 bs bm v
      have HN := Lib.hid hN
      have z8 := b8.size
      have H8 := Lib.hid (And.intro h8 (And.intro l8 f8))
      clear o7 b7 q0 h7 h8 l8 f8 b8 hN
      go_wp2_with fail
      generalize w7.heap.size = q at H8 ⊢
      generalize World.alloc _ _ = w8 at H8 z8 ⊢
      go_loopw [60] (fun v60 wr => ∃ (k : Nat) (S' : List StR) (v' vf : Value) (D' : DataW Unit), k ≤ N ∧ v60 = .int .i64 (k : Int) ∧ Hid (AddL (Q.take k) (S.map stp) 0 (S'.map stp)) ∧ Hid (FW wr B bi bs ba bm v' S' D' ∧ Fr w wr bs bm v v' ∧ FrS w S S') ∧ Hid (LV wr w.heap.size (.string (enc n)) (.string ⟨#[]⟩) vf (.slice a9 N c9) v' q Q ((Q.take k).map fun f => ((idx (S'.map stp) f : Nat) : Int)) S') ∧ w.heap.size ≤ wr.heap.size) (fun v60 _ => N - (intOf v60).toNat)
      case atStart => exact ⟨0, S, v, .slice none 0 0, D, by omega, rfl, Lib.hid (by rw [List.take_zero]; exact .nil _), Lib.hid ⟨H8.out.1, H8.out.2.2, FrS.refl _ _⟩, Lib.hid H8.out.2.1, z8⟩
      case round =>
        clear H8 z8
        obtain ⟨k, S1, v1, vf, D1, hk, rfl, hA, hF, hV, hz⟩ := hrel
        by_cases hlt : k < N
        · have hkQ : k < Q.length := by rw [HN.out]; exact hlt
          obtain ⟨b, hb9, hc9⟩ := row_str hV.out.f hkQ
          subst hb9
          have hd1 := hF.out.1.ca
          unfold addV at hd1
          have hsz := AddL.size hA.out (fun f hf => pow1024 (HFM.out f (List.mem_of_mem_take hf)).2)
          rw [List.length_map, List.length_map] at hsz
          have hwt := wts_take Q k hkQ
          have hIH := HIH.out Q[k] (HLT.out _ (List.getElem_mem hkQ)) wr v1 S1 D1 hF.out.1 (by have := HWT.out; omega)
          have hqb := (HFM.out _ (List.getElem_mem hkQ)).2
          have hT : Q.take (k + 1) = Q.take k ++ [Q[k]] := List.take_succ_eq_append_getElem hkQ
          have hdr : Q = Q.take k ++ (Q[k] :: Q.drop (k + 1)) := by rw [← List.drop_eq_getElem_cons hkQ, List.take_append_drop]
          generalize Q[k] = f at hc9 hIH hqb hT hdr hwt
          have HT := Lib.hid hT
          have HDR := Lib.hid hdr
          have HI := Lib.hid hIH
          have HQB := Lib.hid hqb
          clear hT hdr hIH hqb hwt hsz hkQ
          go_wp2_with fail
          refine HI.out.mono ?_; rintro e w9 ⟨E, S2, v2, D2, rfl, hA2, hF2, hf2, hS2⟩
          by_cases hE : E = 0
          · subst hE
            have l9 := hV.out.fr hF.out.1 hf2 hS2
            have hA3 := hA.out.app rfl hA2
            rw [← HT.out] at hA3
            have hkn := hA2.all rfl f (by simp)
            have hpre := hA2.pre
            have hkk := hA.out.all rfl
            have hG : ((Q.take (k + 1)).map fun f => ((idx (S2.map stp) f : Nat) : Int)) = ((Q.take k).map fun f => ((idx (S1.map stp) f : Nat) : Int)) ++ [((idx (S2.map stp) f : Nat) : Int)] := by
              rw [HT.out, List.map_append]
              congr 1
              exact List.map_congr_left fun g hg => by rw [idx_pre hpre (hkk g hg)]
            obtain ⟨G, hGe⟩ : ∃ G, ((Q.take k).map fun f => ((idx (S1.map stp) f : Nat) : Int)) = G := ⟨_, rfl⟩
            have hGl : G.length = k := by rw [← hGe, List.length_map, List.length_take, HN.out]; omega
            rw [hGe] at hG l9
            obtain ⟨ag, cg, hvf⟩ := own_form l9.g
            rw [hGl] at hvf
            subst hvf
            have c2 := l9.c2
            have ci := hF2.ci
            have hdk := (hF2.dk f HQB.out).2 hkn
            have HDK := Lib.hid hdk
            have HM2 := Lib.hid hF2.map
            have HKF := Lib.hid (kl_key HQB.out)
            have hz9 : w.heap.size ≤ w9.heap.size := Nat.le_trans hz hf2.size
            have HL9 := Lib.hid l9
            have HF9 := Lib.hid (And.intro hF2 (And.intro (hF.out.2.1.trans hf2) (hF.out.2.2.trans hS2 hz)))
            have HA9 := Lib.hid hA3
            have HG9 := Lib.hid (And.intro hG hGl)
            have HGO := l9.g
            rw [hGl] at HGO
            have HGO := Lib.hid HGO
            clear hA hF hV hA2 hF2 hf2 hS2 l9 hA3 hkn hpre hkk hG hGe hGl hdk hc9 hd1 HI
            go_wp2_with (first
              | (at_lookup; refine wpList_lookup_own_int _ rfl _ _ 59 rfl 27 3 .i64 keyedC Tryd.underlying59 Tryd.underlying3 (zeroIntC _) bm S2.length D2 rfl HM2.out _ _ rfl HKF.out ?_; intro cx hcx hwx; have hcc : cx = ((idx (S2.map stp) f : Nat) : Int) := (by have := HDK.out.symm.trans hcx; injection this with this; injection this with _ this; exact this.symm); subst hcc)
              | (at_builtin; refine wpList_append_own_at _ rfl (.tmp 69) (.tmp 73) 42 rfl w.heap.size 3 i2 (.int .i64 0) 1 8 Tryd.underlying42 hl hx0 hx1 hx2 rfl (by decide) (.slice ag k cg) k (G.map (Value.int .i64)) rfl (HGO.out.alloc _) ⟨w9.heap.size, 0, none⟩ 1 1 [.int .i64 ((idx (S2.map stp) f : Nat) : Int)] rfl rfl (one_cellC (new_cell0 _ _ _ _)) (by simp [Value.oneCell']) (by unfold maxLen; omega) (by omega) (by simp; omega) ?_))
            intro vg w10 hown10 hgrow10 _ hloc10
            obtain ⟨a2, c2', hvg⟩ := own_form hown10
            subst hvg
            have hps := HL9.out.push HF9.out.1 zW hz9 _ hgrow10 hloc10 (x := ((idx (S2.map stp) f : Nat) : Int)) (by rw [HG9.out.2]; exact hown10)
            obtain ⟨s10, h11, l11, b11⟩ := hps
            have x5 : w10.cell? ⟨q, 2, none⟩ = some (.slice ag k cg) := by rw [Lib.cell_of_heap s10]; rfl
            have x6 : w10.frozen? ⟨q, 2, none⟩ = false := Lib.frozen_of_heap s10 2
            rw [← HG9.out.1] at l11
            have z11 := b11.size
            have HFF : Hid (FW (w10.setCell ⟨q, 2, none⟩ (.slice a2 (k + 1) c2')) B bi bs ba bm v2 S2 D2 ∧ Fr w (w10.setCell ⟨q, 2, none⟩ (.slice a2 (k + 1) c2')) bs bm v v2 ∧ FrS w S S2) := ⟨h11, HF9.out.2.1.behind b11, HF9.out.2.2⟩
            have HLL := Lib.hid l11
            clear s10 h11 l11 b11 hown10 hgrow10 hloc10 HL9 HF9 HGO HM2 HDK HKF c2 ci
            go_wp2_with fail
            exact ⟨⟨k + 1, S2, v2, _, D2, by omega, by go_num, HA9, HFF, HLL, by omega⟩, by simp [intOf]; omega⟩
          · have hP : AP w B bi bs ba bm v S n (.returned (.int .i64 9)) w9 := ⟨9, S2, v2, D2, rfl, .sub HC.out.1 HC.out.2.1 HC.out.2.2.1 HC.out.2.2.2 (by rw [HQF.out, HDR.out]; exact hA.out.app rfl (hA2.more hE)) hE, hF2, hF.out.2.1.trans hf2, hF.out.2.2.trans hS2 hz⟩
            have HP := Lib.hid hP
            have hE2 : (E == 0) = false := by rw [beq_eq_false_iff_ne]; exact hE
            clear hP hA2 hF2 hf2 hS2 hA hF hV
            go_wp2_with fail
            go_ret
            exact HP.out
        · obtain rfl : k = N := by omega
          have htk : Q.take k = Q := List.take_of_length_le (by rw [HN.out]; omega)
          rw [htk] at hA hV
          obtain ⟨G, hG⟩ : ∃ G, (Q.map fun f => ((idx (S1.map stp) f : Nat) : Int)) = G := ⟨_, rfl⟩
          have hGl : G.length = k := by rw [← hG, List.length_map, HN.out]
          rw [hG] at hV
          have lv := hV.out
          obtain ⟨gf, cf, hvf⟩ : ∃ gf cf, vf = .slice (some ⟨gf, 0, none⟩) k cf := by
            rcases lv.g.2 with ⟨_, h0⟩ | ⟨g, cap, cur, e, _⟩
            · omega
            · exact ⟨g, cap, by rw [e, hGl]⟩
          subst hvf
          have c2 := lv.c2
          have hSo := HSORT w.heap.size gf cf G wr (by rw [hGl]; have := lv.g; rw [hGl] at this; exact this) (by omega)
          rw [hGl] at hSo
          obtain ⟨G', hG'⟩ : ∃ G', (G.mergeSort fun x y => decide (x ≤ y)) = G' := ⟨_, rfl⟩
          have hGl' : G'.length = G.length := by rw [← hG', List.length_mergeSort]
          rw [hG'] at hSo
          have HSo := Lib.hid hSo
          have HGS := Lib.hid (And.intro hG (And.intro hG' (And.intro hGl hGl')))
          clear hSo hG hG' hGl hGl' lv htk
          go_wp2_with fail
          refine HSo.out.mono ?_; rintro e w12 ⟨rfl, ho12, hg12⟩
          have hs12 := hV.out.sorted hF.out.1 zW hz HGS.out.2.2.2 hg12 (by rw [HGS.out.2.2.1]; exact ho12)
          obtain ⟨h12, l12, b12⟩ := hs12
          have f12 := hF.out.2.1.behind b12
          have hsl : SL w12 (.slice a9 k c9) (Q.map enc) := SL.of_own (B := w.heap.size) (by rw [List.length_map, List.map_map]; exact l12.f)
          have z12 := Nat.le_trans hz b12.size
          have H12 := Lib.hid (And.intro h12 (And.intro l12 (And.intro f12 hF.out.2.2)))
          clear hF hV h12 l12 b12 f12 ho12 hg12 c2 HSo
          go_wp2_with fail
          refine (HBs.out _ _ hsl).mono ?_; rintro e w13 ⟨⟨o, rb, bb, rfl, hrb, hbb, hBR⟩, b13⟩
          have h13 := H12.out.1.grow b13
          have l13 : LV w13 w.heap.size (.string (enc n)) (.string ⟨#[]⟩) (.slice (some ⟨gf, 0, none⟩) k cf) (.slice a9 k c9) v1 q Q G' S1 := H12.out.2.1.fr H12.out.1 (Fr.of_below b13 _ _ _) (FrS.refl _ _)
          have f13 := H12.out.2.2.1.behind (b13.mono z12)
          have z13 := Nat.le_trans z12 b13.size
          have H13 := Lib.hid (And.intro h13 (And.intro l13 (And.intro f13 H12.out.2.2.2)))
          clear h13 l13 f13 H12 hsl b13 HBs
          cases o with
          | none =>
            obtain rfl : bb = false := hbb
            have hP : AP w B bi bs ba bm v S n (.returned (.int .i64 9)) w13 := ⟨9, S1, v1, D1, rfl, .none HC.out.1 HC.out.2.1 HC.out.2.2.1 HC.out.2.2.2 (by rw [HQF.out]; exact hA.out) (by rw [HQF.out]; exact hBR), H13.out.1, H13.out.2.2.1, H13.out.2.2.2⟩
            have HP := Lib.hid hP
            clear hP hBR hrb
            go_wp2_with fail
            go_ret
            exact HP.out
          | some x =>
            obtain rfl : bb = true := hbb
            obtain rfl : rb = enc x := hrb
            have hbs := H13.out.2.1.base H13.out.1 zW (.string (enc x))
            obtain ⟨h14, l14, b14⟩ := hbs
            have x1 := H13.out.2.1.c1
            have x2 : w13.frozen? ⟨q, 1, none⟩ = false := Lib.frozen_of_heap H13.out.2.1.s 1
            have f14 := H13.out.2.2.1.behind b14
            have hfs := H13.out.2.2.2
            have z14 := Nat.le_trans z13 b14.size
            have HBR := Lib.hid hBR
            clear H13 hBR b14
            obtain ⟨a, c', rfl⟩ := own_form h14.own
            obtain ⟨m, hm⟩ : ∃ m, S1.length = m := ⟨_, rfl⟩
            have hsz := AddL.size hA.out (fun f hf => pow1024 (HFM.out f hf).2)
            rw [List.length_map, List.length_map, hm] at hsz
            have hm5 : m ≤ 500000 := by have := HWT.out; omega
            have HWF : Hid ((Lit.int .i64 (m : Int)).wf = true) := by show _ = _; simp [Lit.wf, IntKind.min, IntKind.max, IntKind.signed, IntKind.bits]; omega
            have hkn : knownB (S1.map stp) n = false := (hA.out.fresh (fun f hf => pow1024 (HFM.out f hf).2) n HLT.out).trans HC.out.1
            have HKN := Lib.hid hkn
            have H14 := Lib.hid (And.intro h14 (And.intro l14 (And.intro f14 hfs)))
            have HMM := Lib.hid h14.map
            rw [hm] at HMM
            have d1 := h14.ci
            have d2 := h14.cs
            rw [hm] at d2
            have zB := h14.size
            have hqm := l14.qm h14
            have HQ15 := Lib.hid (fun w15 (hg : World.grownBy _ w15 (some bm)) => (hg.block q (Array.getElem?_eq_some_iff.1 l14.s).1 (fun e => hqm (by injection e))).trans l14.s)
            clear h14 l14 f14 hfs hsz hkn hqm
            go_wp2_with (first
              | (at_mapUpdate; refine wpList_mapUpdate_own _ rfl _ _ _ 59 rfl 27 3 keyedC Tryd.underlying59 (plainElem Tryd.prog 3) bm m D1 rfl HMM.out (by unfold maxLen; omega) _ _ _ rfl rfl HK.out _ [] (plainElem_int Tryd.underlying3 HWF.out) ?_; intro w15 hown15 hgrow15; have d3 : w15.cell? ⟨bs, 0, none⟩ = some (.slice a m c') := (by rw [Lib.cell_of_heap (H14.out.1.mid (w3 := w15) hgrow15).1, hm]; rfl); have HO15 := Lib.hid (H14.out.1.mid (w3 := w15) hgrow15).2.1; rw [hm] at HO15; have z15 := hgrow15.size; have y0 : w15.cell? ⟨q, 0, none⟩ = some (.string (enc n)) := (by rw [Lib.cell_of_heap (HQ15.out _ hgrow15)]; rfl); have y1 : w15.cell? ⟨q, 1, none⟩ = some (.string (enc x)) := (by rw [Lib.cell_of_heap (HQ15.out _ hgrow15)]; rfl); have y2 : w15.cell? ⟨q, 2, none⟩ = some (.slice (some ⟨gf, 0, none⟩) k cf) := (by rw [Lib.cell_of_heap (HQ15.out _ hgrow15)]; rfl))
              | (at_builtin; refine wpList_append_own_at _ rfl (.tmp 94) (.tmp 96) 31 rfl B 44 i0 (.agg #[.string ⟨#[]⟩, .string ⟨#[]⟩, .slice none 0 0]) 3 56 Tryd.underlying31 hi hz0 hz1 hz2 rfl (by decide) (.slice a m c') m (cellsS S1) rfl (HO15.out.alloc _) ⟨w15.heap.size, 0, none⟩ 1 1 [.string (enc n), .string (enc x), .slice (some ⟨gf, 0, none⟩) k cf] rfl rfl three_cells (step_oneCell _ _ _ _ _) (by unfold maxLen; omega) (by omega) (by simp at *; omega) ?_))
            intro v16 w16 hown16 hgrow16 _ hloc16
            subst hm
            obtain ⟨a16, c16, hv16⟩ := own_form hown16
            subst hv16
            have HX3 := (H14.out.1.mid hgrow15).2.2 _ hgrow16
            have hRk : G'.length = k := HGS.out.2.2.2.trans HGS.out.2.2.1
            have hFRr : FR (w13.setCell ⟨q, 1, none⟩ (.string (enc x))) B (enc n, enc x, some ⟨gf, 0, none⟩, cf, G') := by
              unfold FR
              have := own_weak H14.out.2.1.g zW
              rw [hRk] at this
              simp only [hRk]
              exact this
            have HPU := H14.out.1.push HBN.out HKN.out (r := (enc n, enc x, some ⟨gf, 0, none⟩, cf, G')) rfl hFRr hgrow15 hown15 _ hgrow16 hloc16 (by simp only [hRk]; exact hown16)
            have hst : stp (enc n, enc x, some ⟨gf, 0, none⟩, cf, G') = stepS (S1.map stp) n x := by
              show (enc n, enc x, G') = _
              unfold stepS
              rw [HQF.out, HGS.out.1, HGS.out.2.1]
            have hP : AP w B bi bs ba bm v S n (.returned (.int .i64 0)) (w16.setCell ⟨bs, 0, none⟩ (.slice a16 (S1.length + 1) c16)) :=
              ⟨0, _, _, _, rfl, by
                rw [List.map_append, List.map_singleton, hst]
                exact .step HC.out.1 HC.out.2.1 HC.out.2.2.1 HC.out.2.2.2 (by rw [HQF.out]; exact hA.out) (by rw [HQF.out]; exact HBR.out) (.nil _), HPU.1, H14.out.2.2.1.trans HPU.2, fun r hr => by
                rcases List.mem_append.1 hr with h1 | h1
                · exact H14.out.2.2.2 r h1
                · rw [List.mem_singleton.1 h1]
                  refine .inr fun b hb => ?_
                  exact (H14.out.2.1.g.lt b hb).1⟩
            have HP := Lib.hid hP
            have x5 : w16.cell? ⟨bs, 0, none⟩ = some (.slice a S1.length c') := by rw [Lib.cell_of_heap HX3]; rfl
            have x6 : w16.frozen? ⟨bs, 0, none⟩ = false := Lib.frozen_of_heap HX3 0
            clear HX3 HPU hP hown15 hown16 hgrow15 hgrow16 hloc16 H14 HMM d1 d2 d3 HO15 HQ15 hFRr hst y0 y1 y2
            go_wp2_with fail
            go_ret
            exact HP.out
end Go.Proofs.YtjminjliomffaaaDoor
