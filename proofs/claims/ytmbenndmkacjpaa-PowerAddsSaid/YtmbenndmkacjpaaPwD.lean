/- power: NewTable. -/
import Derived.Test.YtmbenndmkacjpaaPwC
import Derived.RangeFuncBox
import Derived.Laws.AppendOwn
import Derived.Deep.RegionHeld3
namespace Go.Proofs.Ytmbenndmkacjpaa
open Go.RowKit Num
set_option maxRecDepth 20000
set_option linter.unusedVariables false
/-- row i of a table -/
def tnum (m b i d : Nat) : Nat := b ^ (16 ^ i * d) % m
def trow (m b i k : Nat) : List ByteArray := (List.range k).map fun d => enc (tnum m b i d)
theorem trow_len (m b i k : Nat) : (trow m b i k).length = k := by simp [trow]
theorem trow_succ (m b i k : Nat) : trow m b i (k + 1) = trow m b i k ++ [enc (tnum m b i k)] := by unfold trow; rw [List.range_succ, List.map_append]; rfl
theorem trow_get {m b i k d : Nat} (h : d < (trow m b i k).length) : (trow m b i k)[d] = enc (tnum m b i d) := by simp [trow]
theorem tnum_zero {m b i : Nat} (h : 2 ≤ m) : tnum m b i 0 = 1 := by unfold tnum; rw [Nat.mul_zero, Nat.pow_zero, Nat.mod_eq_of_lt (by omega)]
theorem tnum_next (m b i d : Nat) : tnum m b i d * tnum m b i 1 % m = tnum m b i (d + 1) := by
  unfold tnum
  rw [← Nat.mul_mod, ← Nat.pow_add, Nat.mul_add]
theorem tnum_top (m b i : Nat) : tnum m b i 16 = tnum m b (i + 1) 1 := by
  unfold tnum
  rw [Nat.mul_one, Nat.pow_succ]
theorem tnum_lt {m b i d : Nat} (h : 2 ≤ m) : tnum m b i d < m := Nat.mod_lt _ (by omega)
/-- the error of NewTable -/
def ntE (M O s : ByteArray) (bits : Int) : Int := if validB s = true then (if gE M O = 0 then (if bits < 0 ∨ 1024 < bits then 2 else if elN (nv M) (nv O) (nv s) = true then 0 else 13) else gE M O) else 3
theorem info_tab : (Try.prog.info? 31).map (·.size) = some 3 := by kernel_rfl
theorem info_rows : (Try.prog.info? 25).map (fun i => (i.zero, i.size, i.bytes)) = some (some (.slice none 0 0), 1, 24) := by kernel_rfl
/-- a variable of type Table -/
def TX (W : World) (b : Nat) (M : ByteArray) (n : Int) (v : Value) : Prop := W.heap[b]? = some (.cells #[.string M, .int .i64 n, v] 31 (0, 0))
section
variable {W W' : World} {b : Nat} {M : ByteArray} {n : Int} {v : Value}
theorem TX.lt (h : TX W b M n v) : b < W.heap.size := (Array.getElem?_eq_some_iff.1 h).1
theorem TX.c0 (h : TX W b M n v) : W.cell? ⟨b, 0, none⟩ = some (.string M) := by rw [Lib.cell_of_heap h]; rfl
theorem TX.c1 (h : TX W b M n v) : W.cell? ⟨b, 1, none⟩ = some (.int .i64 n) := by rw [Lib.cell_of_heap h]; rfl
theorem TX.c2 (h : TX W b M n v) : W.cell? ⟨b, 2, none⟩ = some v := by rw [Lib.cell_of_heap h]; rfl
theorem TX.f (h : TX W b M n v) (j : Nat) : W.frozen? ⟨b, j, none⟩ = false := Lib.frozen_of_heap h j
theorem TX.new (W : World) (M : ByteArray) (n : Int) (v : Value) : TX (W.alloc (.cells #[.string M, .int .i64 n, v] 31)) W.heap.size M n v := heap_alloc_new W _
theorem TX.alloc (h : TX W b M n v) (o : Obj) : TX (W.alloc o) b M n v := (Below.heap_alloc W o b h.lt).trans h
theorem TX.below {K : Nat} (h : TX W b M n v) (hb : Below K W W') (hB : b < K) : TX W' b M n v := (hb.block b hB).trans h
theorem TX.set2 (h : TX W b M n v) (u : Value) : TX (W.setCell ⟨b, 2, none⟩ u) b M n u := put1 h
theorem put3 {a0 a1 a2 v0 v1 v2 : Value} {t : TypeId} (h : W.heap[b]? = some (.cells #[a0, a1, a2] t (0, 0))) :
    (((W.setCell ⟨b, 0, none⟩ v0).setCell ⟨b, 1, none⟩ v1).setCell ⟨b, 2, none⟩ v2).heap[b]? = some (.cells #[v0, v1, v2] t (0, 0)) := put1 (put1 (put1 h))
theorem bodyPost_tab {fn : Func} {R : Ending → World → Prop} {p u : Tmp} {a : Act} {v0 v1 v2 v : Value} (h : fn.results = #[.cell p 31, .tmp u]) (hp : a.tmps.getD p undef = .pointer (some ⟨b, 0, none⟩)) (hu : a.tmps.getD u undef = v)
    (hb : W.heap[b]? = some (.cells #[v0, v1, v2] 31 (0, 0))) (hd : a.defers = []) (hR : R (.returned (.tuple #[.agg #[v0, v1, v2], v])) W) : bodyPost Try.prog fn R Exit.ret a W := by
  refine bodyPost_ret (v := .tuple #[.agg #[v0, v1, v2], v]) (w := W) ?_ hd hR
  rw [results_cell_tmp h, hp, hu]
  simp [asAddr, run_loadVar_row W b _ _ _ (0, 0) _ hb Try.underlying31 rfl info_tab]
end
/-- the boxes of NewTable -/
theorem boxes (w : World) (M O : ByteArray) : ∃ w1, (w.alloc (.cells #[.string M, .string O] 24)).alloc (.cells #[.string ⟨#[]⟩, .int .i64 0, .slice none 0 0] 31) = w1 ∧ GB w1 w.heap.size M O ∧ TX w1 (w.heap.size + 1) ⟨#[]⟩ 0 (.slice none 0 0) ∧ Below w.heap.size w w1 ∧ w1.heap.size = w.heap.size + 2 := by
  have h := TX.new (w.alloc (.cells #[.string M, .string O] 24)) ⟨#[]⟩ 0 (.slice none 0 0)
  rw [World.size_alloc] at h
  exact ⟨_, rfl, (GB.new w M O).alloc _, h, ((Below.refl _ w).alloc (Nat.le_refl _) _).alloc (by simp) _, by simp⟩
set_option maxHeartbeats 4000000 in
theorem newTable_bad (M O s : ByteArray) (bits : Int) (E : Int) (w : World) (hE : ntE M O s bits = E) (h0 : E ≠ 0) :
    Calls Try.prog 9 #[.agg #[.string M, .string O], .string s, .int .i64 bits] w fun e w' => e = .returned (.tuple #[.agg #[.string ⟨#[]⟩, .int .i64 0, .slice none 0 0], .int .i64 E]) ∧ Below w.heap.size w w' := by
  obtain ⟨w1, hw1, hG, hT, hb, hz⟩ := boxes w M O
  by_cases hv : validB s = true
  rotate_left
  · have hv' : validB s = false := by simpa using hv
    obtain rfl : E = 3 := by rw [← hE, ntE, if_neg hv]
    have HV := Lib.hid hv'
    clear hv hv' hE h0
    go_enter Try.func9, Try.ntmps9
    go_wp2_with fail
    refine (Valid_any s _).mono ?_; rw [HV.out]; rintro e w2 ⟨rfl, rfl⟩
    have f0 := hT.f 0
    have f1 := hT.f 1
    have f2 := hT.f 2
    have c0 := hT.c0
    have c1 := hT.c1
    have c2 := hT.c2
    go_wp2_with fail
    refine bodyPost_tab rfl rfl rfl (put3 hT) rfl ⟨rfl, ?_⟩
    exact ((hb.setCell (p := ⟨w.heap.size + 1, 0, none⟩) (by simp) _).setCell (p := ⟨w.heap.size + 1, 1, none⟩) (by simp) _).setCell (p := ⟨w.heap.size + 1, 2, none⟩) (by simp) _
  have HV := Lib.hid hv
  have hE' : (if gE M O = 0 then (if bits < 0 ∨ 1024 < bits then 2 else if elN (nv M) (nv O) (nv s) = true then 0 else 13) else gE M O) = E := by rw [← hE, ntE, if_pos hv]
  clear hE
  by_cases hg : gE M O = 0
  rotate_left
  · rw [if_neg hg] at hE'
    have HG := Lib.hid hE'
    have hk : E = 3 ∨ E = 13 := by rw [← hE']; exact (gE_cases M O).resolve_left hg
    clear hv hE' hg h0
    rcases hk with rfl | rfl
    all_goals
      go_enter Try.func9, Try.ntmps9
      go_wp2_with fail
      refine (Valid_any s _).mono ?_; rw [HV.out]; rintro e w2 ⟨rfl, rfl⟩
      have d0 := hG.c0
      have d1 := hG.c1
      go_wp2_with fail
      refine (gCheck_any M O _).mono ?_; rw [HG.out]; rintro e w2 ⟨rfl, b2⟩
      have hT2 := hT.below b2 hT.lt
      have hG2 := hG.below b2 hG.lt
      have hb2 := hb.trans (b2.mono hb.size)
      clear d0 d1
      have f0 := hT2.f 0
      have f1 := hT2.f 1
      have f2 := hT2.f 2
      have c0 := hT2.c0
      have c1 := hT2.c1
      have c2 := hT2.c2
      have d0 := hG2.c0
      have d1 := hG2.c1
      go_wp2_with fail
      refine bodyPost_tab rfl rfl rfl (put3 hT2) rfl ⟨rfl, ?_⟩
      exact ((hb2.setCell (p := ⟨w.heap.size + 1, 0, none⟩) (by simp) _).setCell (p := ⟨w.heap.size + 1, 1, none⟩) (by simp) _).setCell (p := ⟨w.heap.size + 1, 2, none⟩) (by simp) _
  rw [if_pos hg] at hE'
  have HG := Lib.hid hg
  by_cases hr : bits < 0 ∨ 1024 < bits
  · rw [if_pos hr] at hE'
    obtain rfl : E = 2 := hE'.symm
    clear hv hE' hg h0
    rcases hr with hr | hr
    all_goals
      have u1 : decide (bits < 0) = decide (bits < 0) := rfl
      go_enter Try.func9, Try.ntmps9
      go_wp2_with fail
      refine (Valid_any s _).mono ?_; rw [HV.out]; rintro e w2 ⟨rfl, rfl⟩
      have d0 := hG.c0
      have d1 := hG.c1
      go_wp2_with fail
      refine (gCheck_any M O _).mono ?_; rw [HG.out]; rintro e w2 ⟨rfl, b2⟩
      have hT2 := hT.below b2 hT.lt
      have hG2 := hG.below b2 hG.lt
      have hb2 := hb.trans (b2.mono hb.size)
      clear d0 d1
      have f0 := hT2.f 0
      have f1 := hT2.f 1
      have f2 := hT2.f 2
      have c0 := hT2.c0
      have c1 := hT2.c1
      have c2 := hT2.c2
      have d0 := hG2.c0
      have d1 := hG2.c1
      go_wp2_with fail
      all_goals
        refine bodyPost_tab rfl rfl rfl (put3 hT2) rfl ⟨rfl, ?_⟩
        exact ((hb2.setCell (p := ⟨w.heap.size + 1, 0, none⟩) (by simp) _).setCell (p := ⟨w.heap.size + 1, 1, none⟩) (by simp) _).setCell (p := ⟨w.heap.size + 1, 2, none⟩) (by simp) _
  · rw [if_neg hr] at hE'
    have hel : elN (nv M) (nv O) (nv s) = false := by
      cases h : elN (nv M) (nv O) (nv s)
      · rfl
      · rw [if_pos h] at hE'; exact absurd hE'.symm h0
    rw [if_neg (by rw [hel]; simp)] at hE'
    obtain rfl : E = 13 := hE'.symm
    have r1 : 0 ≤ bits := by omega
    have r2 : bits ≤ 1024 := by omega
    have HH := Lib.hid (show (validB s && elN (nv M) (nv O) (nv s)) = false by rw [hel, Bool.and_false])
    clear hv hE' hg h0 hr hel
    go_enter Try.func9, Try.ntmps9
    go_wp2_with fail
    refine (Valid_any s _).mono ?_; rw [HV.out]; rintro e w2 ⟨rfl, rfl⟩
    have d0 := hG.c0
    have d1 := hG.c1
    go_wp2_with fail
    refine (gCheck_any M O _).mono ?_; rw [HG.out]; rintro e w2 ⟨rfl, b2⟩
    have hT2 := hT.below b2 hT.lt
    have hG2 := hG.below b2 hG.lt
    have hb2 := hb.trans (b2.mono hb.size)
    clear d0 d1
    have f0 := hT2.f 0
    have f1 := hT2.f 1
    have f2 := hT2.f 2
    have c0 := hT2.c0
    have c1 := hT2.c1
    have c2 := hT2.c2
    have d0 := hG2.c0
    have d1 := hG2.c1
    go_wp2_with fail
    refine (has_any M O s _ HG.out).mono ?_; rw [HH.out]; rintro e w3 ⟨rfl, b3⟩
    replace hT2 := hT2.below b3 hT2.lt
    replace hG2 := hG2.below b3 hG2.lt
    replace hb2 := hb2.trans (b3.mono hb2.size)
    clear f0 f1 f2 c0 c1 c2 d0 d1
    have f0 := hT2.f 0
    have f1 := hT2.f 1
    have f2 := hT2.f 2
    have c0 := hT2.c0
    have c1 := hT2.c1
    have c2 := hT2.c2
    have d0 := hG2.c0
    have d1 := hG2.c1
    go_wp2_with fail
    refine bodyPost_tab rfl rfl rfl (put3 hT2) rfl ⟨rfl, ?_⟩
    exact ((hb2.setCell (p := ⟨w.heap.size + 1, 0, none⟩) (by simp) _).setCell (p := ⟨w.heap.size + 1, 1, none⟩) (by simp) _).setCell (p := ⟨w.heap.size + 1, 2, none⟩) (by simp) _
/-- the rows of a table -/
def TbAt (W : World) (v : Value) (m b n : Nat) : Prop := (n = 0 ∧ v = .slice none 0 0) ∨ ∃ g c, v = .slice (some ⟨g, 0, none⟩) n c ∧ g < W.heap.size ∧ ∀ i, i < n → ∃ h c', W.cell? ⟨g, i, none⟩ = some (.slice (some ⟨h, 0, none⟩) 16 c') ∧ h < W.heap.size ∧ StrAt W h (trow m b i 16)
theorem TbAt.below {W W' : World} {v : Value} {m b n : Nat} (h : TbAt W v m b n) (hb : Below W.heap.size W W') : TbAt W' v m b n := by
  rcases h with h | ⟨g, c, h1, h2, h3⟩
  · exact .inl h
  · refine .inr ⟨g, c, h1, Nat.lt_of_lt_of_le h2 hb.size, fun i hi => ?_⟩
    obtain ⟨q, c', e1, e2, e3⟩ := h3 i hi
    exact ⟨q, c', (hb.cell (p := ⟨g, i, none⟩) h2).trans e1, Nat.lt_of_lt_of_le e2 hb.size, e3.below hb e2⟩
/-- what NewTable leaves -/
def NTP (M : ByteArray) (bits m b n : Nat) (w : World) (e : Ending) (w' : World) : Prop := ∃ v, e = .returned (.tuple #[.agg #[.string M, .int .i64 (bits : Int), v], .int .i64 0]) ∧ TbAt w' v m b n ∧ Below w.heap.size w w'
/-- the rows so far: slices in a row that is ours -/
structure Rws (W : World) (K : Nat) (v : Value) (m b i : Nat) (vs : List Value) : Prop where
  own : W.ownsRow K 25 1 v i vs
  row : ∀ j, j < i → ∃ g c cur, vs[j]? = some (.slice (some ⟨g, 0, none⟩) 16 c) ∧ W.heap[g]? = some (.cells cur 22 (0, 0)) ∧ StrAt W g (trow m b j 16)
theorem own_keep {w w' : World} {K e size n : Nat} {v : Value} {xs : List Value} (hb : Below w.heap.size w w') (h : w.ownsRow K e size v n xs) : w'.ownsRow K e size v n xs := by
  rcases h with ⟨h0, h | ⟨g, cap, cur, h1, h2, h3, h4⟩⟩
  · exact ⟨h0, .inl h⟩
  · exact ⟨h0, .inr ⟨g, cap, cur, h1, h2, (hb.block g (Array.getElem?_eq_some_iff.1 h3).1).trans h3, h4⟩⟩
theorem Rws.below {W W' : World} {K : Nat} {v : Value} {m b i : Nat} {vs : List Value} (h : Rws W K v m b i vs) (hb : Below W.heap.size W W') : Rws W' K v m b i vs :=
  ⟨own_keep hb h.own, fun j hj => by
    obtain ⟨g, c, cur, h1, h2, h3⟩ := h.row j hj
    have hl := (Array.getElem?_eq_some_iff.1 h2).1
    exact ⟨g, c, cur, h1, (hb.block g hl).trans h2, h3.below hb hl⟩⟩
theorem own_one (w : World) (s : ByteArray) : (w.alloc (.cells #[.string s] 22)).ownsRow w.heap.size 22 1 (.slice (some ⟨w.heap.size, 0, none⟩) 1 1) 1 [.string s] :=
  ⟨rfl, .inr ⟨_, 1, #[.string s], rfl, Nat.le_refl _, heap_alloc_new w _, Nat.le_refl _, by unfold maxLen; omega, rfl, rfl⟩⟩
theorem own_ge {w : World} {K e size n : Nat} {v : Value} {xs : List Value} (h : w.ownsRow K e size v n xs) : ∀ k, v.ownBlock = some k → K ≤ k ∧ ∃ cur, w.heap[k]? = some (.cells cur e (0, 0)) := by
  intro k hk
  rcases h.2 with ⟨h1, _⟩ | ⟨g, cap, cur, h1, h2, h3, _⟩
  · subst h1; cases hk
  · subst h1; cases hk; exact ⟨h2, cur, h3⟩
/-- a row more -/
theorem Rws.push {W w' : World} {p : Nat} {M : ByteArray} {n : Int} {v v' : Value} {m b i g cap : Nat} {vs : List Value} {o : Obj} (hR : Rws W (p + 1) v m b i vs) (hst : StrAt W g (trow m b i 16)) (hg : ∃ cur, W.heap[g]? = some (.cells cur 22 (0, 0))) (hX : TX W p M n v)
    (hown : w'.ownsRow (p + 1) 25 1 v' (i + 1) (vs ++ [.slice (some ⟨g, 0, none⟩) 16 cap])) (hgrow : (W.alloc o).grownBy w' v.ownBlock) :
    TX w' p M n v ∧ Rws w' (p + 1) v' m b (i + 1) (vs ++ [.slice (some ⟨g, 0, none⟩) 16 cap]) ∧ StrAt w' g (trow m b i 16) := by
  have hkeep : ∀ (k : Nat) (cur : Array Value), W.heap[k]? = some (.cells cur 22 (0, 0)) → w'.heap[k]? = some (.cells cur 22 (0, 0)) := fun k cur hk => by
    have hl := (Array.getElem?_eq_some_iff.1 hk).1
    rw [hgrow.block k (by simp; omega) (fun e => by
      obtain ⟨_, cur', h2⟩ := own_ge hR.own k e.symm
      rw [hk] at h2
      injection h2 with h2
      injection h2 with _ h2 _
      revert h2; decide), Below.heap_alloc _ _ _ hl]
    exact hk
  have hlen : vs.length = i := by have := hR.own.1; omega
  refine ⟨?_, ⟨hown, fun j hj => ?_⟩, fun j hj => ?_⟩
  · have hl := hX.lt
    unfold TX
    rw [hgrow.block p (by simp; omega) (fun e => by have := (own_ge hR.own p e.symm).1; omega), Below.heap_alloc _ _ _ hl]
    exact hX
  · rcases Nat.lt_or_ge j i with h | h
    · obtain ⟨q, c, cur, h1, h2, h3⟩ := hR.row j h
      refine ⟨q, c, cur, by rw [List.getElem?_append_left (by omega)]; exact h1, hkeep q cur h2, fun k hk => ?_⟩
      have := h3 k hk
      unfold World.cell? at this ⊢
      rw [show w'.heap[(⟨q, k, none⟩ : Addr).block]? = _ from hkeep q cur h2]
      rw [show W.heap[(⟨q, k, none⟩ : Addr).block]? = _ from h2] at this
      exact this
    · obtain rfl : j = i := by omega
      obtain ⟨cur, hg⟩ := hg
      refine ⟨g, cap, cur, by rw [List.getElem?_append_right (by omega), hlen]; simp, hkeep g cur hg, fun k hk => ?_⟩
      have := hst k hk
      unfold World.cell? at this ⊢
      rw [show w'.heap[(⟨g, k, none⟩ : Addr).block]? = _ from hkeep g cur hg]
      rw [show W.heap[(⟨g, k, none⟩ : Addr).block]? = _ from hg] at this
      exact this
  · obtain ⟨cur, hg⟩ := hg
    have := hst j hj
    unfold World.cell? at this ⊢
    rw [show w'.heap[(⟨g, j, none⟩ : Addr).block]? = _ from hkeep g cur hg]
    rw [show W.heap[(⟨g, j, none⟩ : Addr).block]? = _ from hg] at this
    exact this
theorem Rws.set {W : World} {p : Nat} {M : ByteArray} {n : Int} {v u x : Value} {m b i : Nat} {vs : List Value} (h : Rws W (p + 1) v m b i vs) (hX : TX W p M n u) : Rws (W.setCell ⟨p, 2, none⟩ x) (p + 1) v m b i vs := by
  have hne : ∀ k, k ≠ p → (W.setCell ⟨p, 2, none⟩ x).heap[k]? = W.heap[k]? := fun k hk => Below.heap_setCell _ _ _ _ hk
  refine ⟨?_, fun j hj => ?_⟩
  · rcases h.own with ⟨h0, h1 | ⟨g, cap, cur, h1, h2, h3, h4⟩⟩
    · exact ⟨h0, .inl h1⟩
    · exact ⟨h0, .inr ⟨g, cap, cur, h1, h2, (hne g (by omega)).trans h3, h4⟩⟩
  · obtain ⟨g, c, cur, h1, h2, h3⟩ := h.row j hj
    have hgp : g ≠ p := fun e => by
      subst e
      rw [show W.heap[g]? = _ from hX] at h2
      injection h2 with h2
      injection h2 with _ h2 _
      revert h2; decide
    refine ⟨g, c, cur, h1, (hne g hgp).trans h2, fun k hk => ?_⟩
    exact cell_set_ne (h3 k hk) hgp
theorem Rws.tb {W W' : World} {p r : Nat} {v : Value} {m b n : Nat} {vs : List Value} {cs : Array Value} (h : Rws W (p + 1) v m b n vs) (hr : W.heap[r]? = some (.cells cs 31 (0, 0))) (hrp : r ≤ p) (hs : W.heap.size ≤ W'.heap.size) (hne : ∀ k, k ≠ r → W'.heap[k]? = W.heap[k]?) : TbAt W' v m b n := by
  have hh := h.own
  rcases h.own.2 with ⟨h1, h2⟩ | ⟨g, cap, cur, rfl, h2, h3, _⟩
  · exact .inl ⟨h2, h1⟩
  · have hgr : g ≠ r := by omega
    refine .inr ⟨g, cap, rfl, Nat.lt_of_lt_of_le (Array.getElem?_eq_some_iff.1 h3).1 hs, fun i hi => ?_⟩
    obtain ⟨q, c, cur', e1, e2, e3⟩ := h.row i hi
    have hqr : q ≠ r := fun e => by
      subst e
      rw [hr] at e2
      injection e2 with e2
      injection e2 with _ e2 _
      revert e2; decide
    have hc := hh.cells (g := g) rfl i _ e1
    rw [addr_add] at hc
    refine ⟨q, c, ?_, Nat.lt_of_lt_of_le (Array.getElem?_eq_some_iff.1 e2).1 hs, fun k hk => ?_⟩
    · rw [← hc]
      unfold World.cell?
      rw [show W'.heap[(⟨g, i, none⟩ : Addr).block]? = _ from hne g hgr]
    · rw [← e3 k hk]
      unfold World.cell?
      rw [show W'.heap[(⟨q, k, none⟩ : Addr).block]? = _ from hne q hqr]
theorem one_cellV {W : World} {g : Nat} {v : Value} (h : W.cell? ⟨g, 0, none⟩ = some v) : ∀ j u, [v][j]? = some u → W.cell? ((⟨g, 0, none⟩ : Addr).add j) = some u := by
  intro j u hj
  cases j with
  | zero => simp at hj; subst hj; exact h
  | succ j => simp at hj
theorem keepM {w1 w2 w3 : World} {p g d : Nat} {M s : ByteArray} (h : w2.cell? ⟨p, 0, none⟩ = some (.string M) ∧ w2.cell? ⟨g, d, none⟩ = some (.string s) ∧ Below w1.heap.size w1 w2) (b : Below w2.heap.size w2 w3) :
    w3.cell? ⟨p, 0, none⟩ = some (.string M) ∧ w3.cell? ⟨g, d, none⟩ = some (.string s) ∧ Below w1.heap.size w1 w3 :=
  ⟨cellB_below h.1 b (Nat.le_refl _), cellB_below h.2.1 b (Nat.le_refl _), h.2.2.trans (b.mono h.2.2.size)⟩
set_option maxHeartbeats 8000000 in
theorem newTable_ok (M O s : ByteArray) (bits : Nat) (w : World) (h0 : ntE M O s bits = 0) :
    Calls Try.prog 9 #[.agg #[.string M, .string O], .string s, .int .i64 (bits : Int)] w (NTP M bits (nv M) (nv s) ((bits + 3) / 4) w) := by
  obtain ⟨w1, hw1, hG, hT, hb, hz⟩ := boxes w M O
  have hv : validB s = true := by
    cases h : validB s
    · rw [ntE, if_neg (by rw [h]; simp)] at h0; cases h0
    · rfl
  rw [ntE, if_pos hv] at h0
  have hg : gE M O = 0 := by
    by_cases h : gE M O = 0
    · exact h
    · rw [if_neg h] at h0; exact absurd h0 h
  rw [if_pos hg] at h0
  have hr : bits ≤ 1024 := by
    by_cases h : (bits : Int) < 0 ∨ 1024 < (bits : Int)
    · rw [if_pos h] at h0; cases h0
    · omega
  rw [if_neg (by omega)] at h0
  have hel : elN (nv M) (nv O) (nv s) = true := by
    cases h : elN (nv M) (nv O) (nv s)
    · rw [if_neg (by rw [h]; simp)] at h0; cases h0
    · rfl
  obtain ⟨hM, hO, hm2, _⟩ := gE_ok hg
  have hs := isN_of_valid hv
  have hlt := el_lt hel
  have HV := Lib.hid hv
  have HG := Lib.hid hg
  have HH := Lib.hid (show (validB s && elN (nv M) (nv O) (nv s)) = true by rw [hv, hel]; rfl)
  obtain ⟨m, hm⟩ : ∃ m, nv M = m := ⟨_, rfl⟩
  obtain ⟨b, hb'⟩ : ∃ b, nv s = b := ⟨_, rfl⟩
  rw [hm] at hM hm2 hlt ⊢
  rw [hb'] at hs hlt ⊢
  have e0 : s = enc (tnum m b 0 1) := by rw [hs.eq, tnum]; simp [Nat.mod_eq_of_lt hlt]
  have HM := Lib.hid hM
  have H2 := Lib.hid hm2
  have HS0 := Lib.hid e0
  clear hv hg h0 hel hM hO hm2 hs hlt hm hb' e0
  go_enter Try.func9, Try.ntmps9
  go_wp2_with fail
  refine (Valid_any s _).mono ?_; rw [HV.out]; rintro e w2 ⟨rfl, rfl⟩
  have d0 := hG.c0
  have d1 := hG.c1
  go_wp2_with fail
  refine (gCheck_any M O _).mono ?_; rw [HG.out]; rintro e w2 ⟨rfl, b2⟩
  have hT2 := hT.below b2 hT.lt
  have hG2 := hG.below b2 hG.lt
  have hb2 := hb.trans (b2.mono hb.size)
  clear d0 d1
  have d0 := hG2.c0
  have d1 := hG2.c1
  have r1 : (0 : Int) ≤ (bits : Int) := by omega
  have r2 : (bits : Int) ≤ 1024 := by omega
  go_wp2_with fail
  refine (has_any M O s _ HG.out).mono ?_; rw [HH.out]; rintro e w3 ⟨rfl, b3⟩
  replace hT2 := hT2.below b3 hT2.lt
  replace hG2 := hG2.below b3 hG2.lt
  replace hb2 := hb2.trans (b3.mono hb2.size)
  clear d0 d1
  have d0 := hG2.c0
  go_wp2_with fail
  have hX := TX.new w3 M (bits : Int) (.slice none 0 0)
  have hG3 := hG2.alloc (.cells #[.string M, .int .i64 (bits : Int), .slice none 0 0] 31)
  have hT3 := hT2.alloc (.cells #[.string M, .int .i64 (bits : Int), .slice none 0 0] 31)
  have hb3 := hb2.alloc hb2.size (.cells #[.string M, .int .i64 (bits : Int), .slice none 0 0] 31)
  have hz3 : (w3.alloc (.cells #[.string M, .int .i64 (bits : Int), .slice none 0 0] 31)).heap.size = w3.heap.size + 1 := by simp
  have q1 : w.heap.size + 1 < w3.heap.size := hT2.lt
  obtain ⟨cnt, hcnt⟩ : ∃ c, (bits + 3) / 4 = c := ⟨_, rfl⟩
  have hci : ((bits : Int) + 3) / 4 = (cnt : Int) := by omega
  have hc256 : cnt ≤ 256 := by omega
  rw [hci, hcnt]
  have HCNT := Lib.hid hcnt
  clear hG2 hT2 hb2 b2 b3 hw1 hz hG hT hb d0 HV HG HH hci hcnt
  generalize w3.heap.size = p at hX hG3 hT3 hb3 hz3 q1 ⊢
  generalize w3.alloc _ = w4 at hX hG3 hT3 hb3 hz3 ⊢
  have hM := HM.out
  obtain ⟨i0, hi, hy0, hy1, hy2⟩ := info_parts info_nat
  obtain ⟨i1, hj, hx0, hx1, hx2⟩ := info_parts info_rows
  have HINF := Lib.hid (And.intro (And.intro hi (And.intro hy0 (And.intro hy1 hy2))) (And.intro hj (And.intro hx0 (And.intro hx1 hx2))))
  clear hi hy0 hy1 hy2 hj hx0 hx1 hx2
  go_loopw [1, 42] (fun vb vi wr => ∃ i : Nat, i ≤ cnt ∧ vi = .int .i64 (i : Int) ∧ vb = .string (enc (tnum m b i 1)) ∧ ∃ v vs, TX wr p M (bits : Int) v ∧ Hid (Rws wr (p + 1) v m b i vs) ∧ Below p w4 wr) (fun _ vi _ => cnt - (intOf vi).toNat)
  case atStart => exact ⟨0, by omega, rfl, by rw [HS0.out], _, [], hX, ⟨World.ownsRow_nil _ _ _ _, fun j hj => by omega⟩, Below.refl _ _⟩
  case round =>
    clear hX
    obtain ⟨i, hi, rfl, rfl, v, vs, hX, hR, hbr⟩ := hrel
    have hG4 := hG3.below hbr (by omega)
    have hT4 := hT3.below hbr q1
    have HB1 := Lib.hid (IsN.mk' (mod_le (a := b ^ (16 ^ i * 1)) HM.out (by have := H2.out; omega)))
    by_cases hlt : i < cnt
    · go_wp2_with fail
      refine (of1 _).mono ?_; rintro e w5 ⟨rfl, b5⟩
      have X5 := hX.below b5 hX.lt
      have HR5 := Lib.hid (hR.out.below b5)
      have G5 := hG4.below b5 hG4.lt
      have T5 := hT4.below b5 hT4.lt
      have hb5 := hbr.trans (b5.mono (by have := hbr.size; omega))
      clear hX hR hG4 hT4 b5 hbr
      go_wp2_with fail
      have hL := own_one w5 (enc 1)
      have hK6 : p < w5.heap.size := X5.lt
      have hA := (Below.refl _ w5).alloc (Nat.le_refl _) (.cells #[.string (enc 1)] 22)
      have X6 := X5.below hA X5.lt
      have HR6 : Hid (∀ W', Below w5.heap.size (w5.alloc (.cells #[.string (enc 1)] 22)) W' → Rws W' (p + 1) v m b i vs) := fun W' h => HR5.out.below (hA.trans h)
      have G6 := G5.below hA G5.lt
      have T6 := T5.below hA T5.lt
      have hb6 := hb5.trans (hA.mono (by omega))
      have z6 : (w5.alloc (.cells #[.string (enc 1)] 22)).heap.size = w5.heap.size + 1 := by simp
      clear X5 HR5 G5 T5 hb5 hA
      generalize w5.heap.size = K at hL hK6 z6 HR6 ⊢
      generalize w5.alloc _ = w6 at hL X6 HR6 G6 T6 hb6 z6 ⊢
      have hL0 : w6.ownsRow K 22 1 (.slice (some ⟨K, 0, none⟩) 1 1) 1 ((trow m b i 1).map Value.string) := by
        have e : (trow m b i 1).map Value.string = [.string (enc 1)] := by
          show [Value.string (enc (tnum m b i 0))] = _
          rw [tnum_zero H2.out]
        rw [e]; exact hL
      clear hL
      go_loopw [10, 46] (fun vl vk wr => ∃ d : Nat, d ≤ 15 ∧ vk = .int .i64 (d : Int) ∧ Hid (wr.ownsRow K 22 1 vl (d + 1) ((trow m b i (d + 1)).map Value.string)) ∧ Below K w6 wr) (fun _ vk _ => 15 - (intOf vk).toNat)
      case atStart => exact ⟨0, by omega, rfl, hL0, Below.refl _ _⟩
      case round =>
        clear hL0
        obtain ⟨d, hd, rfl, hL, hbr⟩ := hrel
        obtain ⟨g, cap, rfl, hKg, hcap, hst⟩ := own_str hL.out (by omega)
        have hG7 := G6.below hbr (by omega)
        have zr := hbr.size
        by_cases hd15 : d < 15
        · have s1 : wr.cell? ⟨g, d, none⟩ = some (.string (enc (tnum m b i d))) := by
            rw [hst d (by rw [trow_len]; omega), trow_get]
          have d0 := hG7.c0
          have k1 : IntKind.i64.wrap (((d + 1 : Nat) : Int) - 1) = (d : Int) := by rw [IntKind.wrap_i64]; omega
          have k2 : IntKind.i64.wrap ((d : Int) + 1 - 1) = (d : Int) := by rw [IntKind.wrap_i64]; omega
          have k3 : (0 : Int) ≤ (d : Int) := by omega
          have k4 : (d : Int) < (d : Int) + 1 := by omega
          have k5 : IntKind.i64.wrap (d : Int) = (d : Int) := by rw [IntKind.wrap_i64]; omega
          have k6 : ((d : Int)).toNat = d := by omega
          have k7 : d < d + 1 := by omega
          have HMU : Hid (∀ w, Calls Try.prog 23 #[.string (enc (tnum m b i d)), .string (enc (tnum m b i 1)), .string M] w fun e w' => e = .returned (.tuple #[.string (enc (tnum m b i (d + 1))), .int .i64 0]) ∧ Below w.heap.size w w') := fun w => by
            have h := ModMul_ok (enc (tnum m b i d)) (enc (tnum m b i 1)) M (tnum m b i d) (tnum m b i 1) m w (IsN.mk' (mod_le HM.out (by have := H2.out; omega))) HB1.out HM.out (by have := H2.out; omega)
            rw [tnum_next] at h
            exact h
          go_wp2_with fail
          go_region_held3 (fun w' => w'.cell? ⟨w.heap.size, 0, none⟩ = some (.string M) ∧ w'.cell? ⟨g, d, none⟩ = some (.string (enc (tnum m b i d))) ∧ Below wr.heap.size wr w')
            (first | exact ⟨d0, s1, (Below.refl _ wr).drew⟩ | (refine keepM ?_ bn; assumption))
            (first | (go_at_call 23; (with_reducible refine (HMU.out _).mono ?_); rintro e wn ⟨rfl, bn⟩))
          clear k1 k2 k3 k4 k5 k6 k7 s1 d0
          go_split_ands
          have hbn : Below wr.heap.size wr wn := by assumption
          have hLn := Lib.hid (own_keep hbn hL.out)
          obtain ⟨y, hy⟩ : ∃ y, enc (tnum m b i (d + 1)) = y := ⟨_, rfl⟩
          have hA := (Below.refl _ wn).alloc (Nat.le_refl _) (.cells #[.string y] 22)
          have hLa := Lib.hid (own_keep hA hLn.out)
          have hNC := Lib.hid (one_cellV (W := wn.alloc (.cells #[.string y] 22)) (g := wn.heap.size) (v := .string y) (by rw [Lib.cell_of_heap (heap_alloc_new wn _)]; rfl))
          have hbn2 := hbr.trans (hbn.mono (by omega))
          have hKb : K ≤ (wn.alloc (.cells #[.string y] 22)).heap.size := by have := hbn.size; simp; omega
          have hzn := hbn2.size
          have hzz : (wn.alloc (.cells #[.string y] 22)).heap.size = wn.heap.size + 1 := by simp
          rw [hy]
          have HY := Lib.hid hy
          clear hL hLn hst hG7 HMU bn hy
          go_wp2_with (at_builtin; refine wpList_append_own _ rfl (.tmp 61) (.tmp 63) 25 rfl K 22 i0 (.string ⟨#[]⟩) 1 16 Try.underlying25 HINF.out.1.1 HINF.out.1.2.1 HINF.out.1.2.2.1 HINF.out.1.2.2.2 rfl (by decide) (.slice (some ⟨g, 0, none⟩) (d + 1) cap) (d + 1) ((trow m b i (d + 1)).map Value.string) rfl hLa.out ⟨wn.heap.size, 0, none⟩ 1 1 [.string y] rfl rfl hNC.out ?o1 ?o2 ?o3 hKb ?_; (case o1 => simp [Value.oneCell']); (case o2 => unfold maxLen; omega); (case o3 => omega); intro v' w' hown hgrow _; clear hLa hNC)
          refine ⟨⟨d + 1, by omega, by go_num, ?_, (hbn2.alloc (by omega) _).grown hgrow (by simp; omega) (fun k e => by cases e; exact hKg)⟩, by simp [intOf]; omega⟩
          rw [trow_succ m b i (d + 1), HY.out, List.map_append]
          exact hown
        · obtain rfl : d = 15 := by omega
          have hst16 : StrAt wr g (trow m b i 16) := hst
          have HST := Lib.hid hst16
          have hgb : ∃ cur, wr.heap[g]? = some (.cells cur 22 (0, 0)) := (own_ge hL.out g rfl).2
          have HGB := Lib.hid hgb
          have X7 := X6.below hbr (by omega)
          have hR7 : Hid (Rws wr (p + 1) v m b i vs) := by
            exact HR6.out wr hbr
          have c7 := X7.c2
          have f7 := X7.f 2
          have hLb := Lib.hid (Below.refl wr.heap.size wr)
          obtain ⟨u, hu⟩ : ∃ u, Value.slice (some ⟨g, 0, none⟩) 16 cap = u := ⟨_, rfl⟩
          have hA := (Below.refl _ wr).alloc (Nat.le_refl _) (.cells #[.slice (some ⟨g, 0, none⟩) 16 cap] 25)
          have hPa := Lib.hid (own_keep hA hR7.out.own)
          have hNC := Lib.hid (one_cellV (W := wr.alloc (.cells #[.slice (some ⟨g, 0, none⟩) 16 cap] 25)) (g := wr.heap.size) (v := .slice (some ⟨g, 0, none⟩) 16 cap) (by rw [Lib.cell_of_heap (heap_alloc_new wr _)]; rfl))
          have hbp : Below p w4 wr := hb6.trans (hbr.mono (by omega))
          have hKb : p + 1 ≤ (wr.alloc (.cells #[.slice (some ⟨g, 0, none⟩) 16 cap] 25)).heap.size := by simp; omega
          have hvw : ∀ v0 : Value, v.ownBlock = v0.ownBlock → v.ownBlock = v0.ownBlock := fun _ h => h
          clear hL hst hbr hLb hu u hvw HR6
          go_wp2_with (at_builtin; go_loud (refine wpList_append_own _ rfl (.tmp 67) (.tmp 69) 29 rfl (p + 1) 25 i1 (.slice none 0 0) 1 24 Try.underlying29 HINF.out.2.1 HINF.out.2.2.1 HINF.out.2.2.2.1 HINF.out.2.2.2.2 rfl (by decide) v i vs rfl hPa.out ⟨wr.heap.size, 0, none⟩ 1 1 [.slice (some ⟨g, 0, none⟩) 16 cap] rfl rfl hNC.out ?o4 ?o5 ?o6 hKb ?_; (case o4 => simp [Value.oneCell']); (case o5 => unfold maxLen; omega); (case o6 => omega); intro v' w' hown hgrow _; obtain ⟨g', cap', rfl⟩ := ownsRow_succ hown; obtain ⟨X8, hR8, hS8⟩ := hR7.out.push HST.out HGB.out X7 hown hgrow; have c8 := X8.c2; have f8 := X8.f 2; have HR8 := Lib.hid hR8; have HS8 := Lib.hid hS8; clear hPa hNC hown hR8 hS8))
          have hgp : g ≠ p := by omega
          have X9 := X8.set2 (.slice (some ⟨g', 0, none⟩) (i + 1) cap')
          have HR9 := Lib.hid (HR8.out.set (x := .slice (some ⟨g', 0, none⟩) (i + 1) cap') X8)
          have HS9 : Hid (StrAt (w'.setCell ⟨p, 2, none⟩ (.slice (some ⟨g', 0, none⟩) (i + 1) cap')) g (trow m b i 16)) := fun k hk => cell_set_ne (HS8.out k hk) hgp
          have hb8 : Below p w4 w' := (hbp.alloc (Nat.le_of_lt X7.lt) _).grown hgrow (by simp; have := X7.lt; omega) (fun k e => by have := (own_ge hR7.out.own k e).1; omega)
          have hb9 := hb8.setCell (p := ⟨p, 2, none⟩) (Nat.le_refl _) (.slice (some ⟨g', 0, none⟩) (i + 1) cap')
          clear hgrow X8 HR8 HS8 hR7 X7 hb8 hbp c7 f7 c8 f8 hA hKb HGB hgb HST hst16
          generalize w'.setCell ⟨p, 2, none⟩ (.slice (some ⟨g', 0, none⟩) (i + 1) cap') = w9 at X9 HR9 HS9 hb9 ⊢
          have hG9 := hG3.below hb9 (by omega)
          have d0 := hG9.c0
          have s1 : w9.cell? ⟨g, 15, none⟩ = some (.string (enc (tnum m b i 15))) := by
            rw [HS9.out 15 (by rw [trow_len]; omega), trow_get]
          have HMU : Hid (∀ w, Calls Try.prog 23 #[.string (enc (tnum m b i 15)), .string (enc (tnum m b i 1)), .string M] w fun e w' => e = .returned (.tuple #[.string (enc (tnum m b (i + 1) 1)), .int .i64 0]) ∧ Below w.heap.size w w') := fun w => by
            have h := ModMul_ok (enc (tnum m b i 15)) (enc (tnum m b i 1)) M (tnum m b i 15) (tnum m b i 1) m w (IsN.mk' (mod_le HM.out (by have := H2.out; omega))) HB1.out HM.out (by have := H2.out; omega)
            rw [tnum_next, tnum_top] at h
            exact h
          clear HS9 hG9 hG7 X6 G6 T6 hb6
          go_region_held3 (fun w' => w'.cell? ⟨w.heap.size, 0, none⟩ = some (.string M) ∧ w'.cell? ⟨g, 15, none⟩ = some (.string (enc (tnum m b i 15))) ∧ Below w9.heap.size w9 w')
            (first | exact ⟨d0, s1, (Below.refl _ w9).drew⟩ | (refine keepM ?_ bn; assumption))
            (first | (go_at_call 23; (with_reducible refine (HMU.out _).mono ?_); rintro e wn ⟨rfl, bn⟩))
          go_split_ands
          have hbn : Below w9.heap.size w9 wn := by assumption
          have X10 := X9.below hbn X9.lt
          have HR10 := HR9.out.below hbn
          have hb10 := hb9.trans (hbn.mono (by have := X9.lt; omega))
          go_wp2_with fail
          exact ⟨⟨i + 1, by omega, by go_num, rfl, _, _, X10, HR10, hb10⟩, by simp [intOf]; omega⟩
    · obtain rfl : cnt = i := by omega
      have c0 := hX.c0
      have c1 := hX.c1
      have c2 := hX.c2
      have d0 := hT4.c0
      have d1 := hT4.c1
      have d2 := hT4.c2
      have f0 := hT4.f 0
      have f1 := hT4.f 1
      have f2 := hT4.f 2
      have hne : ∀ (x y z : Value) k, k ≠ w.heap.size + 1 → (((wr.setCell ⟨w.heap.size + 1, 0, none⟩ x).setCell ⟨w.heap.size + 1, 1, none⟩ y).setCell ⟨w.heap.size + 1, 2, none⟩ z).heap[k]? = wr.heap[k]? := fun x y z k hk =>
        (Below.heap_setCell _ _ _ _ hk).trans ((Below.heap_setCell _ _ _ _ hk).trans (Below.heap_setCell _ _ _ _ hk))
      have HTB : Hid (∀ x y z : Value, TbAt (((wr.setCell ⟨w.heap.size + 1, 0, none⟩ x).setCell ⟨w.heap.size + 1, 1, none⟩ y).setCell ⟨w.heap.size + 1, 2, none⟩ z) v m b cnt) := fun x y z =>
        hR.out.tb (r := w.heap.size + 1) hT4 (by omega) (by simp) (hne x y z)
      have hbf := hb3.trans (hbr.mono (by omega))
      have HBF : Hid (∀ x y z : Value, Below w.heap.size w (((wr.setCell ⟨w.heap.size + 1, 0, none⟩ x).setCell ⟨w.heap.size + 1, 1, none⟩ y).setCell ⟨w.heap.size + 1, 2, none⟩ z)) := fun x y z =>
        ((hbf.setCell (p := ⟨w.heap.size + 1, 0, none⟩) (by simp) _).setCell (p := ⟨w.heap.size + 1, 1, none⟩) (by simp) _).setCell (p := ⟨w.heap.size + 1, 2, none⟩) (by simp) _
      have hvv : ∃ ao n c, v = .slice ao n c := by
        rcases hR.out.own.2 with ⟨h1, h2⟩ | ⟨g, cap, cur, h1, _⟩
        · exact ⟨_, _, _, h1⟩
        · exact ⟨_, _, _, h1⟩
      obtain ⟨ao, nn, cc, rfl⟩ := hvv
      clear hne hbf hlt hi hG4
      go_wp2_with fail
      refine bodyPost_tab rfl rfl rfl (put3 hT4) rfl ?_
      exact ⟨_, rfl, by rw [HCNT.out]; exact HTB.out _ _ _, HBF.out _ _ _⟩
end Go.Proofs.Ytmbenndmkacjpaa
