import Derived.Test.YtdlbnioidfhhcaaGreatIcC
/- intcommit: variables, equation. -/
namespace Go.Proofs.YtdlbnioidfhhcaaGreat
open Go.RowKit Num
set_option maxRecDepth 20000
set_option linter.unusedVariables false
theorem info_vrb : (Tryz.prog.info? 77).map (fun i => (i.zero, i.size, i.bytes)) = some (some (.agg #[.string ⟨#[]⟩]), 1, 16) := by kernel_rfl
theorem one_cellV (w : World) (x : Value) (t : TypeId) : ∀ j u, ([x] : List Value)[j]? = some u → (w.alloc (.cells #[x] t)).cell? ((⟨w.heap.size, 0, none⟩ : Addr).add j) = some u := fun j u hj => by
  have h : (w.alloc (.cells #[x] t)).heap[w.heap.size]? = _ := heap_alloc_new w _
  match j, hj with
  | 0, hj => cases hj; rw [addr_add, Lib.cell_of_heap h]; rfl
theorem own_sl {w : World} {K e size n : Nat} {v : Value} {xs : List Value} (h : w.ownsRow K e size v n xs) : ∃ ao c, v = .slice ao n c := by
  rcases h.2 with ⟨h1, h2⟩ | ⟨g, cap, cur, rfl, _⟩
  · exact ⟨none, 0, by rw [h1, h2]⟩
  · exact ⟨_, cap, rfl⟩
set_option maxHeartbeats 8000000 in
theorem ivariables_any (s0 s1 s2 : ByteArray) (w : World) :
    Calls Tryz.prog 25 #[.agg #[.string s0, .string s1, .string s2], .int .i64 3] w fun e w' => (∃ v, e = .returned v ∧ w'.ownsRow w.heap.size 77 1 v 3 ([s0, s1, s2].map Value.string)) ∧ Below w.heap.size w w' := by
  have hb := (Below.refl _ w).alloc (Nat.le_refl _) (.cells #[.string s0, .string s1, .string s2] 65)
  have hX : (w.alloc (.cells #[.string s0, .string s1, .string s2] 65)).heap[w.heap.size]? = some (.cells #[.string s0, .string s1, .string s2] 65 (0, 0)) := heap_alloc_new w _
  have c0 : (w.alloc (.cells #[.string s0, .string s1, .string s2] 65)).cell? ⟨w.heap.size, 0, none⟩ = some (.string s0) := by rw [Lib.cell_of_heap hX]; rfl
  have c1 : (w.alloc (.cells #[.string s0, .string s1, .string s2] 65)).cell? ⟨w.heap.size, 1, none⟩ = some (.string s1) := by rw [Lib.cell_of_heap hX]; rfl
  have c2 : (w.alloc (.cells #[.string s0, .string s1, .string s2] 65)).cell? ⟨w.heap.size, 2, none⟩ = some (.string s2) := by rw [Lib.cell_of_heap hX]; rfl
  obtain ⟨i0, hy, hy0, hy1, hy2⟩ := info_parts info_vrb
  clear hX
  go_enter Tryz.func25, Tryz.ntmps25
  go_wp2_with fail
  refine wp_loop_rounds 4 ?_
  rw [rounds_succ]
  generalize World.alloc w _ = W0 at hb c0 c1 c2 ⊢
  have hR : W0.ownsRow W0.heap.size 77 1 (.slice none 0 0) 0 (([] : List ByteArray).map Value.string) := ⟨rfl, .inl ⟨rfl, rfl⟩⟩
  have hk := Below.refl W0.heap.size W0
  have bk := (Below.refl _ W0).alloc (Nat.le_refl _) (.cells #[.string s0] 77)
  replace hk := hk.alloc hk.size (.cells #[.string s0] 77)
  replace hR := own_keepL bk hR
  have hs := hk.size
  go_wp2_with (at_builtin; refine wpList_append_own _ rfl (.tmp 15) (.tmp 18) 39 rfl W0.heap.size 77 i0 (.agg #[.string ⟨#[]⟩]) 1 16 Tryz.underlying39 hy hy0 hy1 hy2 rfl (by decide) (.slice none 0 0) 0 (([] : List ByteArray).map Value.string) rfl hR ⟨W0.heap.size, 0, none⟩ 1 1 [.string s0] rfl rfl (one_cellV _ _ _) (by simp [Value.oneCell']) (by unfold maxLen; omega) (by omega) hs ?_; intro v1 W1 hown hgrow _; have hk' := hk.grown hgrow hs (fun q e => (own_ge hR q e).1); obtain ⟨a1, n1, rfl⟩ := own_sl hown)
  replace hk := hk'
  clear hR hgrow hk' bk hs
  have hR : W1.ownsRow W0.heap.size 77 1 (.slice a1 1 n1) 1 ([s0].map Value.string) := hown
  clear hown
  have e1 := cells_keepL hk (Nat.le_refl _) _ _ c1
  rw [rounds_succ]
  have bk := (Below.refl _ W1).alloc (Nat.le_refl _) (.cells #[.string s1] 77)
  replace hk := hk.alloc hk.size (.cells #[.string s1] 77)
  replace hR := own_keepL bk hR
  have hs := hk.size
  go_wp2_with (at_builtin; refine wpList_append_own _ rfl (.tmp 15) (.tmp 18) 39 rfl W0.heap.size 77 i0 (.agg #[.string ⟨#[]⟩]) 1 16 Tryz.underlying39 hy hy0 hy1 hy2 rfl (by decide) (.slice a1 1 n1) 1 ([s0].map Value.string) rfl hR ⟨W1.heap.size, 0, none⟩ 1 1 [.string s1] rfl rfl (one_cellV _ _ _) (by simp [Value.oneCell']) (by unfold maxLen; omega) (by omega) hs ?_; intro v2 W2 hown hgrow _; have hk' := hk.grown hgrow hs (fun q e => (own_ge hR q e).1); obtain ⟨a2, n2, rfl⟩ := own_sl hown)
  replace hk := hk'
  clear hR hgrow hk' bk hs
  have hR : W2.ownsRow W0.heap.size 77 1 (.slice a2 2 n2) 2 ([s0, s1].map Value.string) := hown
  clear hown
  have e2 := cells_keepL hk (Nat.le_refl _) _ _ c2
  rw [rounds_succ]
  have bk := (Below.refl _ W2).alloc (Nat.le_refl _) (.cells #[.string s2] 77)
  replace hk := hk.alloc hk.size (.cells #[.string s2] 77)
  replace hR := own_keepL bk hR
  have hs := hk.size
  go_wp2_with (at_builtin; refine wpList_append_own _ rfl (.tmp 15) (.tmp 18) 39 rfl W0.heap.size 77 i0 (.agg #[.string ⟨#[]⟩]) 1 16 Tryz.underlying39 hy hy0 hy1 hy2 rfl (by decide) (.slice a2 2 n2) 2 ([s0, s1].map Value.string) rfl hR ⟨W2.heap.size, 0, none⟩ 1 1 [.string s2] rfl rfl (one_cellV _ _ _) (by simp [Value.oneCell']) (by unfold maxLen; omega) (by omega) hs ?_; intro v3 W3 hown hgrow _; have hk' := hk.grown hgrow hs (fun q e => (own_ge hR q e).1); obtain ⟨a3, n3, rfl⟩ := own_sl hown)
  replace hk := hk'
  clear hR hgrow hk' bk hs
  have hR : W3.ownsRow W0.heap.size 77 1 (.slice a3 3 n3) 3 ([s0, s1, s2].map Value.string) := hown
  clear hown
  rw [rounds_succ]
  have hb3 := hb.trans (hk.mono hb.size)
  have hR3 := own_weakK hR hb.size
  go_wp2_with fail
  go_ret
  exact ⟨⟨_, rfl, hR3⟩, hb3⟩
theorem info_equ : (Tryz.prog.info? 68).map (fun i => (i.zero, i.size, i.bytes)) = some (some (.agg #[.int .i64 0, .string ⟨#[]⟩, .slice none 0 0]), 3, 48) := by kernel_rfl
theorem info_ter : (Tryz.prog.info? 94).map (fun i => (i.zero, i.size, i.bytes)) = some (some (.agg #[.string ⟨#[]⟩, .int .i64 0, .bool false, .string ⟨#[]⟩]), 4, 48) := by kernel_rfl
/-- an equation in a variable -/
def EQB (w : World) (b : Nat) (v0 v1 v2 : Value) : Prop := w.heap[b]? = some (.cells #[v0, v1, v2] 68 (0, 0))
section
variable {w w' : World} {b K : Nat} {v0 v1 v2 : Value}
theorem EQB.lt (h : EQB w b v0 v1 v2) : b < w.heap.size := (Array.getElem?_eq_some_iff.1 h).1
theorem EQB.c0 (h : EQB w b v0 v1 v2) : w.cell? ⟨b, 0, none⟩ = some v0 := by rw [Lib.cell_of_heap h]; rfl
theorem EQB.c1 (h : EQB w b v0 v1 v2) : w.cell? ⟨b, 1, none⟩ = some v1 := by rw [Lib.cell_of_heap h]; rfl
theorem EQB.c2 (h : EQB w b v0 v1 v2) : w.cell? ⟨b, 2, none⟩ = some v2 := by rw [Lib.cell_of_heap h]; rfl
theorem EQB.f (h : EQB w b v0 v1 v2) (i : Nat) : w.frozen? ⟨b, i, none⟩ = false := Lib.frozen_of_heap h i
theorem EQB.below (h : EQB w b v0 v1 v2) (hb : Below K w w') (hK : b < K) : EQB w' b v0 v1 v2 := (hb.block b hK).trans h
theorem EQB.new (w : World) (v0 v1 v2 : Value) : EQB (w.alloc (.cells #[v0, v1, v2] 68)) w.heap.size v0 v1 v2 := heap_alloc_new w _
theorem EQB.put {x0 x1 x2 : Value} (h : EQB w b v0 v1 v2) : EQB (((w.setCell ⟨b, 0, none⟩ x0).setCell ⟨b, 1, none⟩ x1).setCell ⟨b, 2, none⟩ x2) b x0 x1 x2 := put1 (put1 (put1 h))
theorem EQB.put2 {x2 : Value} (h : EQB w b v0 v1 v2) : EQB (w.setCell ⟨b, 2, none⟩ x2) b v0 v1 x2 := put1 h
end
/-- a power in a variable -/
def EXB (w : World) (b : Nat) (v0 v1 : Value) : Prop := w.heap[b]? = some (.cells #[v0, v1] 71 (0, 0))
section
variable {w w' : World} {b K : Nat} {v0 v1 : Value}
theorem EXB.lt (h : EXB w b v0 v1) : b < w.heap.size := (Array.getElem?_eq_some_iff.1 h).1
theorem EXB.c0 (h : EXB w b v0 v1) : w.cell? ⟨b, 0, none⟩ = some v0 := by rw [Lib.cell_of_heap h]; rfl
theorem EXB.c1 (h : EXB w b v0 v1) : w.cell? ⟨b, 1, none⟩ = some v1 := by rw [Lib.cell_of_heap h]; rfl
theorem EXB.f (h : EXB w b v0 v1) (i : Nat) : w.frozen? ⟨b, i, none⟩ = false := Lib.frozen_of_heap h i
theorem EXB.new (w : World) (v0 v1 : Value) : EXB (w.alloc (.cells #[v0, v1] 71)) w.heap.size v0 v1 := heap_alloc_new w _
theorem EXB.put {x0 x1 : Value} (h : EXB w b v0 v1) : EXB ((w.setCell ⟨b, 0, none⟩ x0).setCell ⟨b, 1, none⟩ x1) b x0 x1 := put1 (put1 h)
end
theorem bodyPost_equ {fn : Func} {R : Ending → World → Prop} {p : Tmp} {a : Act} {W : World} {b : Nat} {v0 v1 v2 : Value} (h : fn.results = #[.cell p 68]) (hp : a.tmps.getD p undef = .pointer (some ⟨b, 0, none⟩))
    (hb : EQB W b v0 v1 v2) (hd : a.defers = []) (hR : R (.returned (.agg #[v0, v1, v2])) W) : bodyPost Tryz.prog fn R Exit.ret a W :=
  bodyPost_ret (results_cell_row h _ _ b _ _ (0, 0) _ hp hb Tryz.underlying68 rfl (by kernel_rfl)) hd hR
theorem EXB.below {w w' : World} {b K : Nat} {v0 v1 : Value} (h : EXB w b v0 v1) (hb : Below K w w') (hK : b < K) : EXB w' b v0 v1 := (hb.block b hK).trans h
theorem iof_one (w : World) : Calls Tryz.prog 40 #[.int .i64 1] w fun e w' => e = .returned (.agg #[.bool false, .string (enc 1)]) ∧ Below w.heap.size w w' := iof_z 1 w (by decide)
theorem own_noT {w : World} {B e size n p : Nat} {v : Value} {xs : List Value} {cs : Array Value} {t : TypeId} (h : w.ownsRow B e size v n xs) (hp : w.heap[p]? = some (.cells cs t (0, 0))) (ht : t ≠ e) : v.ownBlock ≠ some p := fun e' => by
  obtain ⟨_, cur, h2⟩ := own_ge h p e'
  rw [hp] at h2
  injection h2 with h2
  injection h2 with _ h2 _
  exact ht h2
theorem own_neE {w : World} {p q : Nat} {v0 v1 x0 x1 x2 : Value} (h : EXB w p v0 v1) (k : EQB w q x0 x1 x2) : p ≠ q := fun e => by
  subst e
  have := h.symm.trans k
  injection this with h2
  injection h2 with _ h2 _
  exact absurd h2 (by decide)
theorem setC_other (w : World) (b j i : Nat) (v : Value) (h : j ≠ b) : (w.setCell ⟨b, i, none⟩ v).heap[j]? = w.heap[j]? := by
  rw [World.setCell]; simp [Array.getElem?_modify, Ne.symm h]
theorem own_setO {w : World} {B e size n p j : Nat} {v x : Value} {xs : List Value} (h : w.ownsRow B e size v n xs) (hn : v.ownBlock ≠ some p) : (w.setCell ⟨p, j, none⟩ x).ownsRow B e size v n xs := by
  rcases h with ⟨h0, h | ⟨g, cap, cur, h1, h2, h3, h4⟩⟩
  · exact ⟨h0, .inl h⟩
  · refine ⟨h0, .inr ⟨g, cap, cur, h1, h2, ?_, h4⟩⟩
    rw [setC_other w p g j x (fun e => hn (by rw [h1, e]; rfl))]
    exact h3
theorem cells4 {w : World} {q : Nat} {x0 x1 x2 x3 : Value} {t : TypeId} {fr : Nat × Nat} (h : w.heap[q]? = some (.cells #[x0, x1, x2, x3] t fr)) : ∀ j u, ([x0, x1, x2, x3] : List Value)[j]? = some u → w.cell? ((⟨q, 0, none⟩ : Addr).add j) = some u := fun j u hj => by
  match j, hj with
  | 0, hj => cases hj; rw [addr_add, Lib.cell_of_heap h]; rfl
  | 1, hj => cases hj; rw [addr_add, Lib.cell_of_heap h]; rfl
  | 2, hj => cases hj; rw [addr_add, Lib.cell_of_heap h]; rfl
  | 3, hj => cases hj; rw [addr_add, Lib.cell_of_heap h]; rfl
/-- the cells of terms -/
def tmc (L : List TmR) : List Value := L.flatMap fun t => [.string t.1, .int .i64 t.2.1, .bool t.2.2.1, .string t.2.2.2]
set_option maxHeartbeats 8000000 in
theorem iequation_any (g : Int) (T b0 b1 : ByteArray) (v0 v1 : Int) (bo c : Nat) (w : World) (c0 : w.cell? ⟨bo, 0, none⟩ = some (.string b0)) (c1 : w.cell? ⟨bo, 1, none⟩ = some (.int .i64 v0)) (c2 : w.cell? ⟨bo, 2, none⟩ = some (.string b1)) (c3 : w.cell? ⟨bo, 3, none⟩ = some (.int .i64 v1)) :
    Calls Tryz.prog 26 #[.int .i64 g, .string T, .slice (some ⟨bo, 0, none⟩) 2 c] w fun e w' => (∃ v, e = .returned (.agg #[.int .i64 g, .string T, v]) ∧ w'.ownsRow w.heap.size 94 4 v 2 (tmc [(b0, v0, false, enc 1), (b1, v1, false, enc 1)])) ∧ Below w.heap.size w w' := by
  have b6 := (Below.refl _ w).alloc (Nat.le_refl _) (.cells #[.int .i64 0, .string ⟨#[]⟩, .slice none 0 0] 68)
  have h6 := EQB.new w (.int .i64 0) (.string ⟨#[]⟩) (.slice none 0 0)
  obtain ⟨Wa, hWa⟩ : ∃ W, w.alloc (.cells #[.int .i64 0, .string ⟨#[]⟩, .slice none 0 0] 68) = W := ⟨_, rfl⟩
  have hsz : Wa.heap.size = w.heap.size + 1 := by rw [← hWa]; simp
  rw [hWa] at b6 h6
  have h7 := EQB.new Wa (.int .i64 g) (.string T) (.slice none 0 0)
  have b7 := (Below.refl _ Wa).alloc (Nat.le_refl _) (.cells #[.int .i64 g, .string T, .slice none 0 0] 68)
  have hk := b6.trans (b7.mono b6.size)
  replace h6 := h6.below b7 h6.lt
  have HO := Lib.hid (fun w' => iof_one w')
  obtain ⟨i0, hy, hy0, hy1, hy2⟩ := info_parts info_ter
  rw [hsz] at h7
  clear b6 b7
  go_enter Tryz.func26, Tryz.ntmps26
  go_upto_region 2 with fail
  have hp67 : w.heap.size ≠ w.heap.size + 1 := by omega
  have hp6 : w.heap.size ≤ w.heap.size := Nat.le_refl _
  have hp7 : w.heap.size ≤ w.heap.size + 1 := by omega
  have hR : (Wa.alloc (.cells #[.int .i64 g, .string T, .slice none 0 0] 68)).ownsRow w.heap.size 94 4 (.slice none 0 0) 0 (tmc []) := ⟨rfl, .inl ⟨rfl, rfl⟩⟩
  generalize World.alloc Wa _ = W0 at h6 h7 hk hR ⊢
  clear hWa hsz
  generalize w.heap.size + 1 = p7 at h7 hp67 hp7 ⊢
  go_wp2_with fail
  refine wp_loop_rounds 3 ?_
  rw [rounds_succ]
  -- @R5
  have e0 := cells_keepL hk (Nat.le_refl _) _ _ c0
  have e1 := cells_keepL hk (Nat.le_refl _) _ _ c1
  have h9 := EXB.new W0 (.string b0) (.int .i64 v0)
  have kb := (Below.refl _ W0).alloc (Nat.le_refl _) (.cells #[.string b0, .int .i64 v0] 71)
  go_upto_region 5 with fail
  replace h6 := h6.below kb h6.lt
  replace h7 := h7.below kb h7.lt
  replace hR := own_keepL kb hR
  replace hk := hk.trans (kb.mono hk.size)
  clear kb e0 e1
  generalize W0.heap.size = p9 at h9 ⊢
  generalize World.alloc W0 _ = X at h6 h7 h9 hR hk ⊢
  refine wp_region_held_drew (S := fun w' => w'.cell? ⟨p9, 0, none⟩ = some (.string b0) ∧ w'.cell? ⟨p9, 1, none⟩ = some (.int .i64 v0)) (by kernel_rfl) ⟨h9.c0, h9.c1⟩ (fun hS' => ?_)
  refine tkT 0 19 (.pointer (some ⟨p7, 2, none⟩)) rfl rfl (by kernel_rfl) (fun _ _ _ _ _ h => h) (.inl ⟨by rfl, fun w' hSw => (by go_simp)⟩) (by assumption) ?_
  try simp only [put9T, List.set]
  refine tkT 2 21 (.pointer (some ⟨p9, 0, none⟩)) rfl rfl (by kernel_rfl) (fun _ _ _ _ _ h => h) (.inl ⟨by rfl, fun w' hSw => (by go_simp)⟩) (by assumption) ?_
  try simp only [put9T, List.set]
  refine tkT 3 22 (.string b0) rfl rfl (by kernel_rfl) (fun _ _ _ _ _ h => h) (.inl ⟨by rfl, fun w' hSw => (by obtain ⟨g0, g1⟩ := hSw; go_simp)⟩) (by assumption) ?_
  try simp only [put9T, List.set]
  refine tkT 4 23 (.pointer (some ⟨p9, 1, none⟩)) rfl rfl (by kernel_rfl) (fun _ _ _ _ _ h => h) (.inl ⟨by rfl, fun w' hSw => (by go_simp)⟩) (by assumption) ?_
  try simp only [put9T, List.set]
  refine tkT 5 24 (.int .i64 v0) rfl rfl (by kernel_rfl) (fun _ _ _ _ _ h => h) (.inl ⟨by rfl, fun w' hSw => (by obtain ⟨g0, g1⟩ := hSw; go_simp)⟩) (by assumption) ?_
  try simp only [put9T, List.set]
  replace h6 : EQB X.drew _ _ _ _ := h6
  replace h7 : EQB X.drew _ _ _ _ := h7
  replace h9 : EXB X.drew _ _ _ := h9
  replace hk := hk.drew
  replace hR := own_keepL (Below.refl _ X).drew hR
  generalize X.drew = Y0 at h6 h7 h9 hR hk hS' ⊢
  refine wpAnyH_ready (rs := [1, 6]) (by kernel_rfl) (by simp) ?_
  refine AllReadyH.cons rfl (fun K hK => ?_) (AllReadyH.cons rfl (fun K hK => ?_) AllReadyH.nil)
  · rw [if_pos (by rfl)]
    have z2 := h7.c2
    go_simp
    refine hK.out _ _ ⟨h9.c0, h9.c1⟩ (fun hS' => ?_)
    clear hK z2
    try simp only [put9T, List.set]
    refine wpAnyH_ready (rs := [6]) (by kernel_rfl) (by simp) ?_
    refine AllReadyH.cons rfl (fun K hK => ?_) AllReadyH.nil
    rw [if_pos (by rfl)]
    go_simp
    go_at_call 40
    refine (HO.out _).mono ?_; rintro e Y1 ⟨rfl, kb⟩
    replace h6 := h6.below kb h6.lt
    replace h7 := h7.below kb h7.lt
    replace h9 := h9.below kb h9.lt
    replace hR := own_keepL kb hR
    replace hk := hk.trans (kb.mono hk.size)
    clear kb
    refine hK.out _ _ ⟨h9.c0, h9.c1⟩ (fun hS' => ?_)
    clear hK
    try simp only [put9T, List.set]
    refine tkT 7 26 (.agg #[.string b0, .int .i64 v0, .bool false, .string (enc 1)]) rfl rfl (by kernel_rfl) (fun _ _ _ _ _ h => h) (.inl ⟨by rfl, fun w' hSw => (by go_simp)⟩) (by assumption) ?_
    try simp only [put9T, List.set]
    refine wpAnyH_ready (rs := [8]) (by kernel_rfl) (by simp) ?_
    refine AllReadyH.cons rfl (fun K hK => ?_) AllReadyH.nil
    rw [if_pos (by rfl)]
    go_simp
    have kb := (Below.refl _ Y1).alloc (Nat.le_refl _) (.cells #[.string b0, .int .i64 v0, .bool false, .string (enc 1)] 94)
    have hc := heap_alloc_new Y1 (.cells #[.string b0, .int .i64 v0, .bool false, .string (enc 1)] 94)
    replace h6 := h6.below kb h6.lt
    replace h7 := h7.below kb h7.lt
    replace h9 := h9.below kb h9.lt
    replace hR := own_keepL kb hR
    replace hk := hk.trans (kb.mono hk.size)
    clear kb
    refine hK.out _ _ ⟨h9.c0, h9.c1⟩ (fun hS' => ?_)
    clear hK
    try simp only [put9T, List.set]
    generalize Y1.heap.size = q at hc ⊢
    generalize World.alloc Y1 _ = Y2 at hc h6 h7 h9 hR hk hS' ⊢
    refine wpAnyH_ready (rs := [9]) (by kernel_rfl) (by simp) ?_
    refine AllReadyH.cons rfl (fun K hK => ?_) AllReadyH.nil
    rw [if_pos (by rfl)]
    refine wp_append_own _ (.tmp 20) (.tmp 27) 66 (by rfl) w.heap.size 94 i0 (.agg #[.string ⟨#[]⟩, .int .i64 0, .bool false, .string ⟨#[]⟩]) 4 48 Tryz.underlying66 hy hy0 hy1 hy2 rfl (by decide) (.slice none 0 0) 0 (tmc []) (by rfl) hR ⟨q, 0, none⟩ 1 1 [.string b0, .int .i64 v0, .bool false, .string (enc 1)] (by rfl) rfl (cells4 hc) (by simp [Value.oneCell']) (by unfold maxLen; omega) (by omega) hk.size ?_
    intro v' Y3 ho hg _
    have n6 := own_noT hR h6 (by decide)
    have n7 := own_noT hR h7 (by decide)
    have n9 := own_noT hR h9 (by decide)
    replace h6 : EQB Y3 w.heap.size _ _ _ := (hg.block w.heap.size h6.lt (fun e => n6 e.symm)).trans h6
    replace h7 : EQB Y3 p7 _ _ _ := (hg.block p7 h7.lt (fun e => n7 e.symm)).trans h7
    replace h9 : EXB Y3 p9 _ _ := (hg.block p9 h9.lt (fun e => n9 e.symm)).trans h9
    replace hk := hk.grown hg hk.size (fun q e => (own_ge hR q e).1)
    clear hR hc n6 n7 n9 hg
    obtain ⟨a1, n1, rfl⟩ := own_sl ho
    have hR : World.ownsRow Y3 w.heap.size 94 4 (.slice a1 1 n1) 1 (tmc [(b0, v0, false, enc 1)]) := ho
    clear ho
    refine hK.out _ _ ⟨h9.c0, h9.c1⟩ (fun hS' => ?_)
    clear hK
    try simp only [put9T, List.set]
    refine tkT 10 29 (.pointer (some ⟨p7, 2, none⟩)) rfl rfl (by kernel_rfl) (fun _ _ _ _ _ h => h) (.inl ⟨by rfl, fun w' hSw => (by go_simp)⟩) (by assumption) ?_
    try simp only [put9T, List.set]
    refine wpAnyH_ready (rs := [11]) (by kernel_rfl) (by simp) ?_
    refine AllReadyH.cons rfl (fun K hK => ?_) AllReadyH.nil
    rw [if_pos (by rfl)]
    have z2 := h7.c2
    have f2 := h7.f 2
    go_simp
    have n7 := own_noT hR h7 (by decide)
    replace h6 : EQB (World.setCell Y3 ⟨p7, 2, none⟩ (.slice a1 1 n1)) w.heap.size _ _ _ := (setC_other Y3 p7 w.heap.size 2 (.slice a1 1 n1) hp67).trans h6
    replace h9 : EXB (World.setCell Y3 ⟨p7, 2, none⟩ (.slice a1 1 n1)) p9 _ _ := (setC_other Y3 p7 p9 2 (.slice a1 1 n1) (own_neE h9 h7)).trans h9
    replace h7 := h7.put2 (x2 := .slice a1 1 n1)
    replace hR := own_setO (x := .slice a1 1 n1) (j := 2) hR n7
    replace hk := hk.setCell (p := ⟨p7, 2, none⟩) hp7 (.slice a1 1 n1)
    refine hK.out _ _ ⟨h9.c0, h9.c1⟩ (fun hS' => ?_)
    clear hK z2 f2 n7
    try simp only [put9T, List.set]
    generalize World.setCell Y3 _ _ = W1 at h6 h7 h9 hR hk hS' ⊢
    refine wpAnyH_done (by kernel_rfl) ?_ _
    clear hS' h9
    go_wp2_with fail
    rw [rounds_succ]
    have e0 := cells_keepL hk (Nat.le_refl _) _ _ c2
    have e1 := cells_keepL hk (Nat.le_refl _) _ _ c3
    have h9 := EXB.new W1 (.string b1) (.int .i64 v1)
    have kb := (Below.refl _ W1).alloc (Nat.le_refl _) (.cells #[.string b1, .int .i64 v1] 71)
    go_upto_region 5 with fail
    replace h6 := h6.below kb h6.lt
    replace h7 := h7.below kb h7.lt
    replace hR := own_keepL kb hR
    replace hk := hk.trans (kb.mono hk.size)
    clear kb e0 e1
    generalize W1.heap.size = p9 at h9 ⊢
    generalize World.alloc W1 _ = X at h6 h7 h9 hR hk ⊢
    refine wp_region_held_drew (S := fun w' => w'.cell? ⟨p9, 0, none⟩ = some (.string b1) ∧ w'.cell? ⟨p9, 1, none⟩ = some (.int .i64 v1)) (by kernel_rfl) ⟨h9.c0, h9.c1⟩ (fun hS' => ?_)
    refine tkT 0 19 (.pointer (some ⟨p7, 2, none⟩)) rfl rfl (by kernel_rfl) (fun _ _ _ _ _ h => h) (.inl ⟨by rfl, fun w' hSw => (by go_simp)⟩) (by assumption) ?_
    try simp only [put9T, List.set]
    refine tkT 2 21 (.pointer (some ⟨p9, 0, none⟩)) rfl rfl (by kernel_rfl) (fun _ _ _ _ _ h => h) (.inl ⟨by rfl, fun w' hSw => (by go_simp)⟩) (by assumption) ?_
    try simp only [put9T, List.set]
    refine tkT 3 22 (.string b1) rfl rfl (by kernel_rfl) (fun _ _ _ _ _ h => h) (.inl ⟨by rfl, fun w' hSw => (by obtain ⟨g0, g1⟩ := hSw; go_simp)⟩) (by assumption) ?_
    try simp only [put9T, List.set]
    refine tkT 4 23 (.pointer (some ⟨p9, 1, none⟩)) rfl rfl (by kernel_rfl) (fun _ _ _ _ _ h => h) (.inl ⟨by rfl, fun w' hSw => (by go_simp)⟩) (by assumption) ?_
    try simp only [put9T, List.set]
    refine tkT 5 24 (.int .i64 v1) rfl rfl (by kernel_rfl) (fun _ _ _ _ _ h => h) (.inl ⟨by rfl, fun w' hSw => (by obtain ⟨g0, g1⟩ := hSw; go_simp)⟩) (by assumption) ?_
    try simp only [put9T, List.set]
    replace h6 : EQB X.drew _ _ _ _ := h6
    replace h7 : EQB X.drew _ _ _ _ := h7
    replace h9 : EXB X.drew _ _ _ := h9
    replace hk := hk.drew
    replace hR := own_keepL (Below.refl _ X).drew hR
    generalize X.drew = Y0 at h6 h7 h9 hR hk hS' ⊢
    refine wpAnyH_ready (rs := [1, 6]) (by kernel_rfl) (by simp) ?_
    refine AllReadyH.cons rfl (fun K hK => ?_) (AllReadyH.cons rfl (fun K hK => ?_) AllReadyH.nil)
    · rw [if_pos (by rfl)]
      have z2 := h7.c2
      go_simp
      refine hK.out _ _ ⟨h9.c0, h9.c1⟩ (fun hS' => ?_)
      clear hK z2
      try simp only [put9T, List.set]
      refine wpAnyH_ready (rs := [6]) (by kernel_rfl) (by simp) ?_
      refine AllReadyH.cons rfl (fun K hK => ?_) AllReadyH.nil
      rw [if_pos (by rfl)]
      go_simp
      go_at_call 40
      refine (HO.out _).mono ?_; rintro e Y1 ⟨rfl, kb⟩
      replace h6 := h6.below kb h6.lt
      replace h7 := h7.below kb h7.lt
      replace h9 := h9.below kb h9.lt
      replace hR := own_keepL kb hR
      replace hk := hk.trans (kb.mono hk.size)
      clear kb
      refine hK.out _ _ ⟨h9.c0, h9.c1⟩ (fun hS' => ?_)
      clear hK
      try simp only [put9T, List.set]
      refine tkT 7 26 (.agg #[.string b1, .int .i64 v1, .bool false, .string (enc 1)]) rfl rfl (by kernel_rfl) (fun _ _ _ _ _ h => h) (.inl ⟨by rfl, fun w' hSw => (by go_simp)⟩) (by assumption) ?_
      try simp only [put9T, List.set]
      refine wpAnyH_ready (rs := [8]) (by kernel_rfl) (by simp) ?_
      refine AllReadyH.cons rfl (fun K hK => ?_) AllReadyH.nil
      rw [if_pos (by rfl)]
      go_simp
      have kb := (Below.refl _ Y1).alloc (Nat.le_refl _) (.cells #[.string b1, .int .i64 v1, .bool false, .string (enc 1)] 94)
      have hc := heap_alloc_new Y1 (.cells #[.string b1, .int .i64 v1, .bool false, .string (enc 1)] 94)
      replace h6 := h6.below kb h6.lt
      replace h7 := h7.below kb h7.lt
      replace h9 := h9.below kb h9.lt
      replace hR := own_keepL kb hR
      replace hk := hk.trans (kb.mono hk.size)
      clear kb
      refine hK.out _ _ ⟨h9.c0, h9.c1⟩ (fun hS' => ?_)
      clear hK
      try simp only [put9T, List.set]
      generalize Y1.heap.size = q at hc ⊢
      generalize World.alloc Y1 _ = Y2 at hc h6 h7 h9 hR hk hS' ⊢
      refine wpAnyH_ready (rs := [9]) (by kernel_rfl) (by simp) ?_
      refine AllReadyH.cons rfl (fun K hK => ?_) AllReadyH.nil
      rw [if_pos (by rfl)]
      refine wp_append_own _ (.tmp 20) (.tmp 27) 66 (by rfl) w.heap.size 94 i0 (.agg #[.string ⟨#[]⟩, .int .i64 0, .bool false, .string ⟨#[]⟩]) 4 48 Tryz.underlying66 hy hy0 hy1 hy2 rfl (by decide) (.slice a1 1 n1) 1 (tmc [(b0, v0, false, enc 1)]) (by rfl) hR ⟨q, 0, none⟩ 1 1 [.string b1, .int .i64 v1, .bool false, .string (enc 1)] (by rfl) rfl (cells4 hc) (by simp [Value.oneCell']) (by unfold maxLen; omega) (by omega) hk.size ?_
      intro v' Y3 ho hg _
      have n6 := own_noT hR h6 (by decide)
      have n7 := own_noT hR h7 (by decide)
      have n9 := own_noT hR h9 (by decide)
      replace h6 : EQB Y3 w.heap.size _ _ _ := (hg.block w.heap.size h6.lt (fun e => n6 e.symm)).trans h6
      replace h7 : EQB Y3 p7 _ _ _ := (hg.block p7 h7.lt (fun e => n7 e.symm)).trans h7
      replace h9 : EXB Y3 p9 _ _ := (hg.block p9 h9.lt (fun e => n9 e.symm)).trans h9
      replace hk := hk.grown hg hk.size (fun q e => (own_ge hR q e).1)
      clear hR hc n6 n7 n9 hg
      obtain ⟨a2, n2, rfl⟩ := own_sl ho
      have hR : World.ownsRow Y3 w.heap.size 94 4 (.slice a2 2 n2) 2 (tmc [(b0, v0, false, enc 1), (b1, v1, false, enc 1)]) := ho
      clear ho
      refine hK.out _ _ ⟨h9.c0, h9.c1⟩ (fun hS' => ?_)
      clear hK
      try simp only [put9T, List.set]
      refine tkT 10 29 (.pointer (some ⟨p7, 2, none⟩)) rfl rfl (by kernel_rfl) (fun _ _ _ _ _ h => h) (.inl ⟨by rfl, fun w' hSw => (by go_simp)⟩) (by assumption) ?_
      try simp only [put9T, List.set]
      refine wpAnyH_ready (rs := [11]) (by kernel_rfl) (by simp) ?_
      refine AllReadyH.cons rfl (fun K hK => ?_) AllReadyH.nil
      rw [if_pos (by rfl)]
      have z2 := h7.c2
      have f2 := h7.f 2
      go_simp
      have n7 := own_noT hR h7 (by decide)
      replace h6 : EQB (World.setCell Y3 ⟨p7, 2, none⟩ (.slice a2 2 n2)) w.heap.size _ _ _ := (setC_other Y3 p7 w.heap.size 2 (.slice a2 2 n2) hp67).trans h6
      replace h9 : EXB (World.setCell Y3 ⟨p7, 2, none⟩ (.slice a2 2 n2)) p9 _ _ := (setC_other Y3 p7 p9 2 (.slice a2 2 n2) (own_neE h9 h7)).trans h9
      replace h7 := h7.put2 (x2 := .slice a2 2 n2)
      replace hR := own_setO (x := .slice a2 2 n2) (j := 2) hR n7
      replace hk := hk.setCell (p := ⟨p7, 2, none⟩) hp7 (.slice a2 2 n2)
      refine hK.out _ _ ⟨h9.c0, h9.c1⟩ (fun hS' => ?_)
      clear hK z2 f2 n7
      try simp only [put9T, List.set]
      generalize World.setCell Y3 _ _ = W2 at h6 h7 h9 hR hk hS' ⊢
      refine wpAnyH_done (by kernel_rfl) ?_ _
      clear hS' h9
      go_wp2_with fail
      rw [rounds_succ]
      have z0 := h7.c0
      have z1 := h7.c1
      have z2 := h7.c2
      have y0 := h6.c0
      have y1 := h6.c1
      have y2 := h6.c2
      have f0 := h6.f 0
      have f1 := h6.f 1
      have f2 := h6.f 2
      go_wp2_with fail
      have hR9 := own_setO (x := .slice a2 2 n2) (j := 2) (own_setO (x := .string T) (j := 1) (own_setO (x := .int .i64 g) (j := 0) hR (own_noT hR h6 (by decide))) (own_noT hR h6 (by decide))) (own_noT hR h6 (by decide))
      refine bodyPost_equ rfl rfl (EQB.put (x0 := .int .i64 g) (x1 := .string T) (x2 := .slice a2 2 n2) h6) rfl ?_
      exact ⟨⟨_, rfl, hR9⟩, ((hk.setCell (p := ⟨w.heap.size, 0, none⟩) hp6 (.int .i64 g)).setCell (p := ⟨w.heap.size, 1, none⟩) hp6 (.string T)).setCell (p := ⟨w.heap.size, 2, none⟩) hp6 (.slice a2 2 n2)⟩
    · rw [if_pos (by rfl)]
      go_simp
      go_at_call 40
      refine (HO.out _).mono ?_; rintro e Y1 ⟨rfl, kb⟩
      replace h6 := h6.below kb h6.lt
      replace h7 := h7.below kb h7.lt
      replace h9 := h9.below kb h9.lt
      replace hR := own_keepL kb hR
      replace hk := hk.trans (kb.mono hk.size)
      clear kb
      refine hK.out _ _ ⟨h9.c0, h9.c1⟩ (fun hS' => ?_)
      clear hK
      try simp only [put9T, List.set]
      refine tkT 7 26 (.agg #[.string b1, .int .i64 v1, .bool false, .string (enc 1)]) rfl rfl (by kernel_rfl) (fun _ _ _ _ _ h => h) (.inl ⟨by rfl, fun w' hSw => (by go_simp)⟩) (by assumption) ?_
      try simp only [put9T, List.set]
      refine wpAnyH_ready (rs := [1, 8]) (by kernel_rfl) (by simp) ?_
      refine AllReadyH.cons rfl (fun K hK => ?_) (AllReadyH.cons rfl (fun K hK => ?_) AllReadyH.nil)
      · rw [if_pos (by rfl)]
        have z2 := h7.c2
        go_simp
        refine hK.out _ _ ⟨h9.c0, h9.c1⟩ (fun hS' => ?_)
        clear hK z2
        try simp only [put9T, List.set]
        refine wpAnyH_ready (rs := [8]) (by kernel_rfl) (by simp) ?_
        refine AllReadyH.cons rfl (fun K hK => ?_) AllReadyH.nil
        rw [if_pos (by rfl)]
        go_simp
        have kb := (Below.refl _ Y1).alloc (Nat.le_refl _) (.cells #[.string b1, .int .i64 v1, .bool false, .string (enc 1)] 94)
        have hc := heap_alloc_new Y1 (.cells #[.string b1, .int .i64 v1, .bool false, .string (enc 1)] 94)
        replace h6 := h6.below kb h6.lt
        replace h7 := h7.below kb h7.lt
        replace h9 := h9.below kb h9.lt
        replace hR := own_keepL kb hR
        replace hk := hk.trans (kb.mono hk.size)
        clear kb
        refine hK.out _ _ ⟨h9.c0, h9.c1⟩ (fun hS' => ?_)
        clear hK
        try simp only [put9T, List.set]
        generalize Y1.heap.size = q at hc ⊢
        generalize World.alloc Y1 _ = Y2 at hc h6 h7 h9 hR hk hS' ⊢
        refine wpAnyH_ready (rs := [9]) (by kernel_rfl) (by simp) ?_
        refine AllReadyH.cons rfl (fun K hK => ?_) AllReadyH.nil
        rw [if_pos (by rfl)]
        refine wp_append_own _ (.tmp 20) (.tmp 27) 66 (by rfl) w.heap.size 94 i0 (.agg #[.string ⟨#[]⟩, .int .i64 0, .bool false, .string ⟨#[]⟩]) 4 48 Tryz.underlying66 hy hy0 hy1 hy2 rfl (by decide) (.slice a1 1 n1) 1 (tmc [(b0, v0, false, enc 1)]) (by rfl) hR ⟨q, 0, none⟩ 1 1 [.string b1, .int .i64 v1, .bool false, .string (enc 1)] (by rfl) rfl (cells4 hc) (by simp [Value.oneCell']) (by unfold maxLen; omega) (by omega) hk.size ?_
        intro v' Y3 ho hg _
        have n6 := own_noT hR h6 (by decide)
        have n7 := own_noT hR h7 (by decide)
        have n9 := own_noT hR h9 (by decide)
        replace h6 : EQB Y3 w.heap.size _ _ _ := (hg.block w.heap.size h6.lt (fun e => n6 e.symm)).trans h6
        replace h7 : EQB Y3 p7 _ _ _ := (hg.block p7 h7.lt (fun e => n7 e.symm)).trans h7
        replace h9 : EXB Y3 p9 _ _ := (hg.block p9 h9.lt (fun e => n9 e.symm)).trans h9
        replace hk := hk.grown hg hk.size (fun q e => (own_ge hR q e).1)
        clear hR hc n6 n7 n9 hg
        obtain ⟨a2, n2, rfl⟩ := own_sl ho
        have hR : World.ownsRow Y3 w.heap.size 94 4 (.slice a2 2 n2) 2 (tmc [(b0, v0, false, enc 1), (b1, v1, false, enc 1)]) := ho
        clear ho
        refine hK.out _ _ ⟨h9.c0, h9.c1⟩ (fun hS' => ?_)
        clear hK
        try simp only [put9T, List.set]
        refine tkT 10 29 (.pointer (some ⟨p7, 2, none⟩)) rfl rfl (by kernel_rfl) (fun _ _ _ _ _ h => h) (.inl ⟨by rfl, fun w' hSw => (by go_simp)⟩) (by assumption) ?_
        try simp only [put9T, List.set]
        refine wpAnyH_ready (rs := [11]) (by kernel_rfl) (by simp) ?_
        refine AllReadyH.cons rfl (fun K hK => ?_) AllReadyH.nil
        rw [if_pos (by rfl)]
        have z2 := h7.c2
        have f2 := h7.f 2
        go_simp
        have n7 := own_noT hR h7 (by decide)
        replace h6 : EQB (World.setCell Y3 ⟨p7, 2, none⟩ (.slice a2 2 n2)) w.heap.size _ _ _ := (setC_other Y3 p7 w.heap.size 2 (.slice a2 2 n2) hp67).trans h6
        replace h9 : EXB (World.setCell Y3 ⟨p7, 2, none⟩ (.slice a2 2 n2)) p9 _ _ := (setC_other Y3 p7 p9 2 (.slice a2 2 n2) (own_neE h9 h7)).trans h9
        replace h7 := h7.put2 (x2 := .slice a2 2 n2)
        replace hR := own_setO (x := .slice a2 2 n2) (j := 2) hR n7
        replace hk := hk.setCell (p := ⟨p7, 2, none⟩) hp7 (.slice a2 2 n2)
        refine hK.out _ _ ⟨h9.c0, h9.c1⟩ (fun hS' => ?_)
        clear hK z2 f2 n7
        try simp only [put9T, List.set]
        generalize World.setCell Y3 _ _ = W2 at h6 h7 h9 hR hk hS' ⊢
        refine wpAnyH_done (by kernel_rfl) ?_ _
        clear hS' h9
        go_wp2_with fail
        rw [rounds_succ]
        have z0 := h7.c0
        have z1 := h7.c1
        have z2 := h7.c2
        have y0 := h6.c0
        have y1 := h6.c1
        have y2 := h6.c2
        have f0 := h6.f 0
        have f1 := h6.f 1
        have f2 := h6.f 2
        go_wp2_with fail
        have hR9 := own_setO (x := .slice a2 2 n2) (j := 2) (own_setO (x := .string T) (j := 1) (own_setO (x := .int .i64 g) (j := 0) hR (own_noT hR h6 (by decide))) (own_noT hR h6 (by decide))) (own_noT hR h6 (by decide))
        refine bodyPost_equ rfl rfl (EQB.put (x0 := .int .i64 g) (x1 := .string T) (x2 := .slice a2 2 n2) h6) rfl ?_
        exact ⟨⟨_, rfl, hR9⟩, ((hk.setCell (p := ⟨w.heap.size, 0, none⟩) hp6 (.int .i64 g)).setCell (p := ⟨w.heap.size, 1, none⟩) hp6 (.string T)).setCell (p := ⟨w.heap.size, 2, none⟩) hp6 (.slice a2 2 n2)⟩
      · rw [if_pos (by rfl)]
        go_simp
        have kb := (Below.refl _ Y1).alloc (Nat.le_refl _) (.cells #[.string b1, .int .i64 v1, .bool false, .string (enc 1)] 94)
        have hc := heap_alloc_new Y1 (.cells #[.string b1, .int .i64 v1, .bool false, .string (enc 1)] 94)
        replace h6 := h6.below kb h6.lt
        replace h7 := h7.below kb h7.lt
        replace h9 := h9.below kb h9.lt
        replace hR := own_keepL kb hR
        replace hk := hk.trans (kb.mono hk.size)
        clear kb
        refine hK.out _ _ ⟨h9.c0, h9.c1⟩ (fun hS' => ?_)
        clear hK
        try simp only [put9T, List.set]
        generalize Y1.heap.size = q at hc ⊢
        generalize World.alloc Y1 _ = Y2 at hc h6 h7 h9 hR hk hS' ⊢
        refine wpAnyH_ready (rs := [1]) (by kernel_rfl) (by simp) ?_
        refine AllReadyH.cons rfl (fun K hK => ?_) AllReadyH.nil
        rw [if_pos (by rfl)]
        have z2 := h7.c2
        go_simp
        refine hK.out _ _ ⟨h9.c0, h9.c1⟩ (fun hS' => ?_)
        clear hK z2
        try simp only [put9T, List.set]
        refine wpAnyH_ready (rs := [9]) (by kernel_rfl) (by simp) ?_
        refine AllReadyH.cons rfl (fun K hK => ?_) AllReadyH.nil
        rw [if_pos (by rfl)]
        refine wp_append_own _ (.tmp 20) (.tmp 27) 66 (by rfl) w.heap.size 94 i0 (.agg #[.string ⟨#[]⟩, .int .i64 0, .bool false, .string ⟨#[]⟩]) 4 48 Tryz.underlying66 hy hy0 hy1 hy2 rfl (by decide) (.slice a1 1 n1) 1 (tmc [(b0, v0, false, enc 1)]) (by rfl) hR ⟨q, 0, none⟩ 1 1 [.string b1, .int .i64 v1, .bool false, .string (enc 1)] (by rfl) rfl (cells4 hc) (by simp [Value.oneCell']) (by unfold maxLen; omega) (by omega) hk.size ?_
        intro v' Y3 ho hg _
        have n6 := own_noT hR h6 (by decide)
        have n7 := own_noT hR h7 (by decide)
        have n9 := own_noT hR h9 (by decide)
        replace h6 : EQB Y3 w.heap.size _ _ _ := (hg.block w.heap.size h6.lt (fun e => n6 e.symm)).trans h6
        replace h7 : EQB Y3 p7 _ _ _ := (hg.block p7 h7.lt (fun e => n7 e.symm)).trans h7
        replace h9 : EXB Y3 p9 _ _ := (hg.block p9 h9.lt (fun e => n9 e.symm)).trans h9
        replace hk := hk.grown hg hk.size (fun q e => (own_ge hR q e).1)
        clear hR hc n6 n7 n9 hg
        obtain ⟨a2, n2, rfl⟩ := own_sl ho
        have hR : World.ownsRow Y3 w.heap.size 94 4 (.slice a2 2 n2) 2 (tmc [(b0, v0, false, enc 1), (b1, v1, false, enc 1)]) := ho
        clear ho
        refine hK.out _ _ ⟨h9.c0, h9.c1⟩ (fun hS' => ?_)
        clear hK
        try simp only [put9T, List.set]
        refine tkT 10 29 (.pointer (some ⟨p7, 2, none⟩)) rfl rfl (by kernel_rfl) (fun _ _ _ _ _ h => h) (.inl ⟨by rfl, fun w' hSw => (by go_simp)⟩) (by assumption) ?_
        try simp only [put9T, List.set]
        refine wpAnyH_ready (rs := [11]) (by kernel_rfl) (by simp) ?_
        refine AllReadyH.cons rfl (fun K hK => ?_) AllReadyH.nil
        rw [if_pos (by rfl)]
        have z2 := h7.c2
        have f2 := h7.f 2
        go_simp
        have n7 := own_noT hR h7 (by decide)
        replace h6 : EQB (World.setCell Y3 ⟨p7, 2, none⟩ (.slice a2 2 n2)) w.heap.size _ _ _ := (setC_other Y3 p7 w.heap.size 2 (.slice a2 2 n2) hp67).trans h6
        replace h9 : EXB (World.setCell Y3 ⟨p7, 2, none⟩ (.slice a2 2 n2)) p9 _ _ := (setC_other Y3 p7 p9 2 (.slice a2 2 n2) (own_neE h9 h7)).trans h9
        replace h7 := h7.put2 (x2 := .slice a2 2 n2)
        replace hR := own_setO (x := .slice a2 2 n2) (j := 2) hR n7
        replace hk := hk.setCell (p := ⟨p7, 2, none⟩) hp7 (.slice a2 2 n2)
        refine hK.out _ _ ⟨h9.c0, h9.c1⟩ (fun hS' => ?_)
        clear hK z2 f2 n7
        try simp only [put9T, List.set]
        generalize World.setCell Y3 _ _ = W2 at h6 h7 h9 hR hk hS' ⊢
        refine wpAnyH_done (by kernel_rfl) ?_ _
        clear hS' h9
        go_wp2_with fail
        rw [rounds_succ]
        have z0 := h7.c0
        have z1 := h7.c1
        have z2 := h7.c2
        have y0 := h6.c0
        have y1 := h6.c1
        have y2 := h6.c2
        have f0 := h6.f 0
        have f1 := h6.f 1
        have f2 := h6.f 2
        go_wp2_with fail
        have hR9 := own_setO (x := .slice a2 2 n2) (j := 2) (own_setO (x := .string T) (j := 1) (own_setO (x := .int .i64 g) (j := 0) hR (own_noT hR h6 (by decide))) (own_noT hR h6 (by decide))) (own_noT hR h6 (by decide))
        refine bodyPost_equ rfl rfl (EQB.put (x0 := .int .i64 g) (x1 := .string T) (x2 := .slice a2 2 n2) h6) rfl ?_
        exact ⟨⟨_, rfl, hR9⟩, ((hk.setCell (p := ⟨w.heap.size, 0, none⟩) hp6 (.int .i64 g)).setCell (p := ⟨w.heap.size, 1, none⟩) hp6 (.string T)).setCell (p := ⟨w.heap.size, 2, none⟩) hp6 (.slice a2 2 n2)⟩
  · rw [if_pos (by rfl)]
    go_simp
    go_at_call 40
    refine (HO.out _).mono ?_; rintro e Y1 ⟨rfl, kb⟩
    replace h6 := h6.below kb h6.lt
    replace h7 := h7.below kb h7.lt
    replace h9 := h9.below kb h9.lt
    replace hR := own_keepL kb hR
    replace hk := hk.trans (kb.mono hk.size)
    clear kb
    refine hK.out _ _ ⟨h9.c0, h9.c1⟩ (fun hS' => ?_)
    clear hK
    try simp only [put9T, List.set]
    refine tkT 7 26 (.agg #[.string b0, .int .i64 v0, .bool false, .string (enc 1)]) rfl rfl (by kernel_rfl) (fun _ _ _ _ _ h => h) (.inl ⟨by rfl, fun w' hSw => (by go_simp)⟩) (by assumption) ?_
    try simp only [put9T, List.set]
    refine wpAnyH_ready (rs := [1, 8]) (by kernel_rfl) (by simp) ?_
    refine AllReadyH.cons rfl (fun K hK => ?_) (AllReadyH.cons rfl (fun K hK => ?_) AllReadyH.nil)
    · rw [if_pos (by rfl)]
      have z2 := h7.c2
      go_simp
      refine hK.out _ _ ⟨h9.c0, h9.c1⟩ (fun hS' => ?_)
      clear hK z2
      try simp only [put9T, List.set]
      refine wpAnyH_ready (rs := [8]) (by kernel_rfl) (by simp) ?_
      refine AllReadyH.cons rfl (fun K hK => ?_) AllReadyH.nil
      rw [if_pos (by rfl)]
      go_simp
      have kb := (Below.refl _ Y1).alloc (Nat.le_refl _) (.cells #[.string b0, .int .i64 v0, .bool false, .string (enc 1)] 94)
      have hc := heap_alloc_new Y1 (.cells #[.string b0, .int .i64 v0, .bool false, .string (enc 1)] 94)
      replace h6 := h6.below kb h6.lt
      replace h7 := h7.below kb h7.lt
      replace h9 := h9.below kb h9.lt
      replace hR := own_keepL kb hR
      replace hk := hk.trans (kb.mono hk.size)
      clear kb
      refine hK.out _ _ ⟨h9.c0, h9.c1⟩ (fun hS' => ?_)
      clear hK
      try simp only [put9T, List.set]
      generalize Y1.heap.size = q at hc ⊢
      generalize World.alloc Y1 _ = Y2 at hc h6 h7 h9 hR hk hS' ⊢
      refine wpAnyH_ready (rs := [9]) (by kernel_rfl) (by simp) ?_
      refine AllReadyH.cons rfl (fun K hK => ?_) AllReadyH.nil
      rw [if_pos (by rfl)]
      refine wp_append_own _ (.tmp 20) (.tmp 27) 66 (by rfl) w.heap.size 94 i0 (.agg #[.string ⟨#[]⟩, .int .i64 0, .bool false, .string ⟨#[]⟩]) 4 48 Tryz.underlying66 hy hy0 hy1 hy2 rfl (by decide) (.slice none 0 0) 0 (tmc []) (by rfl) hR ⟨q, 0, none⟩ 1 1 [.string b0, .int .i64 v0, .bool false, .string (enc 1)] (by rfl) rfl (cells4 hc) (by simp [Value.oneCell']) (by unfold maxLen; omega) (by omega) hk.size ?_
      intro v' Y3 ho hg _
      have n6 := own_noT hR h6 (by decide)
      have n7 := own_noT hR h7 (by decide)
      have n9 := own_noT hR h9 (by decide)
      replace h6 : EQB Y3 w.heap.size _ _ _ := (hg.block w.heap.size h6.lt (fun e => n6 e.symm)).trans h6
      replace h7 : EQB Y3 p7 _ _ _ := (hg.block p7 h7.lt (fun e => n7 e.symm)).trans h7
      replace h9 : EXB Y3 p9 _ _ := (hg.block p9 h9.lt (fun e => n9 e.symm)).trans h9
      replace hk := hk.grown hg hk.size (fun q e => (own_ge hR q e).1)
      clear hR hc n6 n7 n9 hg
      obtain ⟨a1, n1, rfl⟩ := own_sl ho
      have hR : World.ownsRow Y3 w.heap.size 94 4 (.slice a1 1 n1) 1 (tmc [(b0, v0, false, enc 1)]) := ho
      clear ho
      refine hK.out _ _ ⟨h9.c0, h9.c1⟩ (fun hS' => ?_)
      clear hK
      try simp only [put9T, List.set]
      refine tkT 10 29 (.pointer (some ⟨p7, 2, none⟩)) rfl rfl (by kernel_rfl) (fun _ _ _ _ _ h => h) (.inl ⟨by rfl, fun w' hSw => (by go_simp)⟩) (by assumption) ?_
      try simp only [put9T, List.set]
      refine wpAnyH_ready (rs := [11]) (by kernel_rfl) (by simp) ?_
      refine AllReadyH.cons rfl (fun K hK => ?_) AllReadyH.nil
      rw [if_pos (by rfl)]
      have z2 := h7.c2
      have f2 := h7.f 2
      go_simp
      have n7 := own_noT hR h7 (by decide)
      replace h6 : EQB (World.setCell Y3 ⟨p7, 2, none⟩ (.slice a1 1 n1)) w.heap.size _ _ _ := (setC_other Y3 p7 w.heap.size 2 (.slice a1 1 n1) hp67).trans h6
      replace h9 : EXB (World.setCell Y3 ⟨p7, 2, none⟩ (.slice a1 1 n1)) p9 _ _ := (setC_other Y3 p7 p9 2 (.slice a1 1 n1) (own_neE h9 h7)).trans h9
      replace h7 := h7.put2 (x2 := .slice a1 1 n1)
      replace hR := own_setO (x := .slice a1 1 n1) (j := 2) hR n7
      replace hk := hk.setCell (p := ⟨p7, 2, none⟩) hp7 (.slice a1 1 n1)
      refine hK.out _ _ ⟨h9.c0, h9.c1⟩ (fun hS' => ?_)
      clear hK z2 f2 n7
      try simp only [put9T, List.set]
      generalize World.setCell Y3 _ _ = W1 at h6 h7 h9 hR hk hS' ⊢
      refine wpAnyH_done (by kernel_rfl) ?_ _
      clear hS' h9
      go_wp2_with fail
      rw [rounds_succ]
      have e0 := cells_keepL hk (Nat.le_refl _) _ _ c2
      have e1 := cells_keepL hk (Nat.le_refl _) _ _ c3
      have h9 := EXB.new W1 (.string b1) (.int .i64 v1)
      have kb := (Below.refl _ W1).alloc (Nat.le_refl _) (.cells #[.string b1, .int .i64 v1] 71)
      go_upto_region 5 with fail
      replace h6 := h6.below kb h6.lt
      replace h7 := h7.below kb h7.lt
      replace hR := own_keepL kb hR
      replace hk := hk.trans (kb.mono hk.size)
      clear kb e0 e1
      generalize W1.heap.size = p9 at h9 ⊢
      generalize World.alloc W1 _ = X at h6 h7 h9 hR hk ⊢
      refine wp_region_held_drew (S := fun w' => w'.cell? ⟨p9, 0, none⟩ = some (.string b1) ∧ w'.cell? ⟨p9, 1, none⟩ = some (.int .i64 v1)) (by kernel_rfl) ⟨h9.c0, h9.c1⟩ (fun hS' => ?_)
      refine tkT 0 19 (.pointer (some ⟨p7, 2, none⟩)) rfl rfl (by kernel_rfl) (fun _ _ _ _ _ h => h) (.inl ⟨by rfl, fun w' hSw => (by go_simp)⟩) (by assumption) ?_
      try simp only [put9T, List.set]
      refine tkT 2 21 (.pointer (some ⟨p9, 0, none⟩)) rfl rfl (by kernel_rfl) (fun _ _ _ _ _ h => h) (.inl ⟨by rfl, fun w' hSw => (by go_simp)⟩) (by assumption) ?_
      try simp only [put9T, List.set]
      refine tkT 3 22 (.string b1) rfl rfl (by kernel_rfl) (fun _ _ _ _ _ h => h) (.inl ⟨by rfl, fun w' hSw => (by obtain ⟨g0, g1⟩ := hSw; go_simp)⟩) (by assumption) ?_
      try simp only [put9T, List.set]
      refine tkT 4 23 (.pointer (some ⟨p9, 1, none⟩)) rfl rfl (by kernel_rfl) (fun _ _ _ _ _ h => h) (.inl ⟨by rfl, fun w' hSw => (by go_simp)⟩) (by assumption) ?_
      try simp only [put9T, List.set]
      refine tkT 5 24 (.int .i64 v1) rfl rfl (by kernel_rfl) (fun _ _ _ _ _ h => h) (.inl ⟨by rfl, fun w' hSw => (by obtain ⟨g0, g1⟩ := hSw; go_simp)⟩) (by assumption) ?_
      try simp only [put9T, List.set]
      replace h6 : EQB X.drew _ _ _ _ := h6
      replace h7 : EQB X.drew _ _ _ _ := h7
      replace h9 : EXB X.drew _ _ _ := h9
      replace hk := hk.drew
      replace hR := own_keepL (Below.refl _ X).drew hR
      generalize X.drew = Y0 at h6 h7 h9 hR hk hS' ⊢
      refine wpAnyH_ready (rs := [1, 6]) (by kernel_rfl) (by simp) ?_
      refine AllReadyH.cons rfl (fun K hK => ?_) (AllReadyH.cons rfl (fun K hK => ?_) AllReadyH.nil)
      · rw [if_pos (by rfl)]
        have z2 := h7.c2
        go_simp
        refine hK.out _ _ ⟨h9.c0, h9.c1⟩ (fun hS' => ?_)
        clear hK z2
        try simp only [put9T, List.set]
        refine wpAnyH_ready (rs := [6]) (by kernel_rfl) (by simp) ?_
        refine AllReadyH.cons rfl (fun K hK => ?_) AllReadyH.nil
        rw [if_pos (by rfl)]
        go_simp
        go_at_call 40
        refine (HO.out _).mono ?_; rintro e Y1 ⟨rfl, kb⟩
        replace h6 := h6.below kb h6.lt
        replace h7 := h7.below kb h7.lt
        replace h9 := h9.below kb h9.lt
        replace hR := own_keepL kb hR
        replace hk := hk.trans (kb.mono hk.size)
        clear kb
        refine hK.out _ _ ⟨h9.c0, h9.c1⟩ (fun hS' => ?_)
        clear hK
        try simp only [put9T, List.set]
        refine tkT 7 26 (.agg #[.string b1, .int .i64 v1, .bool false, .string (enc 1)]) rfl rfl (by kernel_rfl) (fun _ _ _ _ _ h => h) (.inl ⟨by rfl, fun w' hSw => (by go_simp)⟩) (by assumption) ?_
        try simp only [put9T, List.set]
        refine wpAnyH_ready (rs := [8]) (by kernel_rfl) (by simp) ?_
        refine AllReadyH.cons rfl (fun K hK => ?_) AllReadyH.nil
        rw [if_pos (by rfl)]
        go_simp
        have kb := (Below.refl _ Y1).alloc (Nat.le_refl _) (.cells #[.string b1, .int .i64 v1, .bool false, .string (enc 1)] 94)
        have hc := heap_alloc_new Y1 (.cells #[.string b1, .int .i64 v1, .bool false, .string (enc 1)] 94)
        replace h6 := h6.below kb h6.lt
        replace h7 := h7.below kb h7.lt
        replace h9 := h9.below kb h9.lt
        replace hR := own_keepL kb hR
        replace hk := hk.trans (kb.mono hk.size)
        clear kb
        refine hK.out _ _ ⟨h9.c0, h9.c1⟩ (fun hS' => ?_)
        clear hK
        try simp only [put9T, List.set]
        generalize Y1.heap.size = q at hc ⊢
        generalize World.alloc Y1 _ = Y2 at hc h6 h7 h9 hR hk hS' ⊢
        refine wpAnyH_ready (rs := [9]) (by kernel_rfl) (by simp) ?_
        refine AllReadyH.cons rfl (fun K hK => ?_) AllReadyH.nil
        rw [if_pos (by rfl)]
        refine wp_append_own _ (.tmp 20) (.tmp 27) 66 (by rfl) w.heap.size 94 i0 (.agg #[.string ⟨#[]⟩, .int .i64 0, .bool false, .string ⟨#[]⟩]) 4 48 Tryz.underlying66 hy hy0 hy1 hy2 rfl (by decide) (.slice a1 1 n1) 1 (tmc [(b0, v0, false, enc 1)]) (by rfl) hR ⟨q, 0, none⟩ 1 1 [.string b1, .int .i64 v1, .bool false, .string (enc 1)] (by rfl) rfl (cells4 hc) (by simp [Value.oneCell']) (by unfold maxLen; omega) (by omega) hk.size ?_
        intro v' Y3 ho hg _
        have n6 := own_noT hR h6 (by decide)
        have n7 := own_noT hR h7 (by decide)
        have n9 := own_noT hR h9 (by decide)
        replace h6 : EQB Y3 w.heap.size _ _ _ := (hg.block w.heap.size h6.lt (fun e => n6 e.symm)).trans h6
        replace h7 : EQB Y3 p7 _ _ _ := (hg.block p7 h7.lt (fun e => n7 e.symm)).trans h7
        replace h9 : EXB Y3 p9 _ _ := (hg.block p9 h9.lt (fun e => n9 e.symm)).trans h9
        replace hk := hk.grown hg hk.size (fun q e => (own_ge hR q e).1)
        clear hR hc n6 n7 n9 hg
        obtain ⟨a2, n2, rfl⟩ := own_sl ho
        have hR : World.ownsRow Y3 w.heap.size 94 4 (.slice a2 2 n2) 2 (tmc [(b0, v0, false, enc 1), (b1, v1, false, enc 1)]) := ho
        clear ho
        refine hK.out _ _ ⟨h9.c0, h9.c1⟩ (fun hS' => ?_)
        clear hK
        try simp only [put9T, List.set]
        refine tkT 10 29 (.pointer (some ⟨p7, 2, none⟩)) rfl rfl (by kernel_rfl) (fun _ _ _ _ _ h => h) (.inl ⟨by rfl, fun w' hSw => (by go_simp)⟩) (by assumption) ?_
        try simp only [put9T, List.set]
        refine wpAnyH_ready (rs := [11]) (by kernel_rfl) (by simp) ?_
        refine AllReadyH.cons rfl (fun K hK => ?_) AllReadyH.nil
        rw [if_pos (by rfl)]
        have z2 := h7.c2
        have f2 := h7.f 2
        go_simp
        have n7 := own_noT hR h7 (by decide)
        replace h6 : EQB (World.setCell Y3 ⟨p7, 2, none⟩ (.slice a2 2 n2)) w.heap.size _ _ _ := (setC_other Y3 p7 w.heap.size 2 (.slice a2 2 n2) hp67).trans h6
        replace h9 : EXB (World.setCell Y3 ⟨p7, 2, none⟩ (.slice a2 2 n2)) p9 _ _ := (setC_other Y3 p7 p9 2 (.slice a2 2 n2) (own_neE h9 h7)).trans h9
        replace h7 := h7.put2 (x2 := .slice a2 2 n2)
        replace hR := own_setO (x := .slice a2 2 n2) (j := 2) hR n7
        replace hk := hk.setCell (p := ⟨p7, 2, none⟩) hp7 (.slice a2 2 n2)
        refine hK.out _ _ ⟨h9.c0, h9.c1⟩ (fun hS' => ?_)
        clear hK z2 f2 n7
        try simp only [put9T, List.set]
        generalize World.setCell Y3 _ _ = W2 at h6 h7 h9 hR hk hS' ⊢
        refine wpAnyH_done (by kernel_rfl) ?_ _
        clear hS' h9
        go_wp2_with fail
        rw [rounds_succ]
        have z0 := h7.c0
        have z1 := h7.c1
        have z2 := h7.c2
        have y0 := h6.c0
        have y1 := h6.c1
        have y2 := h6.c2
        have f0 := h6.f 0
        have f1 := h6.f 1
        have f2 := h6.f 2
        go_wp2_with fail
        have hR9 := own_setO (x := .slice a2 2 n2) (j := 2) (own_setO (x := .string T) (j := 1) (own_setO (x := .int .i64 g) (j := 0) hR (own_noT hR h6 (by decide))) (own_noT hR h6 (by decide))) (own_noT hR h6 (by decide))
        refine bodyPost_equ rfl rfl (EQB.put (x0 := .int .i64 g) (x1 := .string T) (x2 := .slice a2 2 n2) h6) rfl ?_
        exact ⟨⟨_, rfl, hR9⟩, ((hk.setCell (p := ⟨w.heap.size, 0, none⟩) hp6 (.int .i64 g)).setCell (p := ⟨w.heap.size, 1, none⟩) hp6 (.string T)).setCell (p := ⟨w.heap.size, 2, none⟩) hp6 (.slice a2 2 n2)⟩
      · rw [if_pos (by rfl)]
        go_simp
        go_at_call 40
        refine (HO.out _).mono ?_; rintro e Y1 ⟨rfl, kb⟩
        replace h6 := h6.below kb h6.lt
        replace h7 := h7.below kb h7.lt
        replace h9 := h9.below kb h9.lt
        replace hR := own_keepL kb hR
        replace hk := hk.trans (kb.mono hk.size)
        clear kb
        refine hK.out _ _ ⟨h9.c0, h9.c1⟩ (fun hS' => ?_)
        clear hK
        try simp only [put9T, List.set]
        refine tkT 7 26 (.agg #[.string b1, .int .i64 v1, .bool false, .string (enc 1)]) rfl rfl (by kernel_rfl) (fun _ _ _ _ _ h => h) (.inl ⟨by rfl, fun w' hSw => (by go_simp)⟩) (by assumption) ?_
        try simp only [put9T, List.set]
        refine wpAnyH_ready (rs := [1, 8]) (by kernel_rfl) (by simp) ?_
        refine AllReadyH.cons rfl (fun K hK => ?_) (AllReadyH.cons rfl (fun K hK => ?_) AllReadyH.nil)
        · rw [if_pos (by rfl)]
          have z2 := h7.c2
          go_simp
          refine hK.out _ _ ⟨h9.c0, h9.c1⟩ (fun hS' => ?_)
          clear hK z2
          try simp only [put9T, List.set]
          refine wpAnyH_ready (rs := [8]) (by kernel_rfl) (by simp) ?_
          refine AllReadyH.cons rfl (fun K hK => ?_) AllReadyH.nil
          rw [if_pos (by rfl)]
          go_simp
          have kb := (Below.refl _ Y1).alloc (Nat.le_refl _) (.cells #[.string b1, .int .i64 v1, .bool false, .string (enc 1)] 94)
          have hc := heap_alloc_new Y1 (.cells #[.string b1, .int .i64 v1, .bool false, .string (enc 1)] 94)
          replace h6 := h6.below kb h6.lt
          replace h7 := h7.below kb h7.lt
          replace h9 := h9.below kb h9.lt
          replace hR := own_keepL kb hR
          replace hk := hk.trans (kb.mono hk.size)
          clear kb
          refine hK.out _ _ ⟨h9.c0, h9.c1⟩ (fun hS' => ?_)
          clear hK
          try simp only [put9T, List.set]
          generalize Y1.heap.size = q at hc ⊢
          generalize World.alloc Y1 _ = Y2 at hc h6 h7 h9 hR hk hS' ⊢
          refine wpAnyH_ready (rs := [9]) (by kernel_rfl) (by simp) ?_
          refine AllReadyH.cons rfl (fun K hK => ?_) AllReadyH.nil
          rw [if_pos (by rfl)]
          refine wp_append_own _ (.tmp 20) (.tmp 27) 66 (by rfl) w.heap.size 94 i0 (.agg #[.string ⟨#[]⟩, .int .i64 0, .bool false, .string ⟨#[]⟩]) 4 48 Tryz.underlying66 hy hy0 hy1 hy2 rfl (by decide) (.slice a1 1 n1) 1 (tmc [(b0, v0, false, enc 1)]) (by rfl) hR ⟨q, 0, none⟩ 1 1 [.string b1, .int .i64 v1, .bool false, .string (enc 1)] (by rfl) rfl (cells4 hc) (by simp [Value.oneCell']) (by unfold maxLen; omega) (by omega) hk.size ?_
          intro v' Y3 ho hg _
          have n6 := own_noT hR h6 (by decide)
          have n7 := own_noT hR h7 (by decide)
          have n9 := own_noT hR h9 (by decide)
          replace h6 : EQB Y3 w.heap.size _ _ _ := (hg.block w.heap.size h6.lt (fun e => n6 e.symm)).trans h6
          replace h7 : EQB Y3 p7 _ _ _ := (hg.block p7 h7.lt (fun e => n7 e.symm)).trans h7
          replace h9 : EXB Y3 p9 _ _ := (hg.block p9 h9.lt (fun e => n9 e.symm)).trans h9
          replace hk := hk.grown hg hk.size (fun q e => (own_ge hR q e).1)
          clear hR hc n6 n7 n9 hg
          obtain ⟨a2, n2, rfl⟩ := own_sl ho
          have hR : World.ownsRow Y3 w.heap.size 94 4 (.slice a2 2 n2) 2 (tmc [(b0, v0, false, enc 1), (b1, v1, false, enc 1)]) := ho
          clear ho
          refine hK.out _ _ ⟨h9.c0, h9.c1⟩ (fun hS' => ?_)
          clear hK
          try simp only [put9T, List.set]
          refine tkT 10 29 (.pointer (some ⟨p7, 2, none⟩)) rfl rfl (by kernel_rfl) (fun _ _ _ _ _ h => h) (.inl ⟨by rfl, fun w' hSw => (by go_simp)⟩) (by assumption) ?_
          try simp only [put9T, List.set]
          refine wpAnyH_ready (rs := [11]) (by kernel_rfl) (by simp) ?_
          refine AllReadyH.cons rfl (fun K hK => ?_) AllReadyH.nil
          rw [if_pos (by rfl)]
          have z2 := h7.c2
          have f2 := h7.f 2
          go_simp
          have n7 := own_noT hR h7 (by decide)
          replace h6 : EQB (World.setCell Y3 ⟨p7, 2, none⟩ (.slice a2 2 n2)) w.heap.size _ _ _ := (setC_other Y3 p7 w.heap.size 2 (.slice a2 2 n2) hp67).trans h6
          replace h9 : EXB (World.setCell Y3 ⟨p7, 2, none⟩ (.slice a2 2 n2)) p9 _ _ := (setC_other Y3 p7 p9 2 (.slice a2 2 n2) (own_neE h9 h7)).trans h9
          replace h7 := h7.put2 (x2 := .slice a2 2 n2)
          replace hR := own_setO (x := .slice a2 2 n2) (j := 2) hR n7
          replace hk := hk.setCell (p := ⟨p7, 2, none⟩) hp7 (.slice a2 2 n2)
          refine hK.out _ _ ⟨h9.c0, h9.c1⟩ (fun hS' => ?_)
          clear hK z2 f2 n7
          try simp only [put9T, List.set]
          generalize World.setCell Y3 _ _ = W2 at h6 h7 h9 hR hk hS' ⊢
          refine wpAnyH_done (by kernel_rfl) ?_ _
          clear hS' h9
          go_wp2_with fail
          rw [rounds_succ]
          have z0 := h7.c0
          have z1 := h7.c1
          have z2 := h7.c2
          have y0 := h6.c0
          have y1 := h6.c1
          have y2 := h6.c2
          have f0 := h6.f 0
          have f1 := h6.f 1
          have f2 := h6.f 2
          go_wp2_with fail
          have hR9 := own_setO (x := .slice a2 2 n2) (j := 2) (own_setO (x := .string T) (j := 1) (own_setO (x := .int .i64 g) (j := 0) hR (own_noT hR h6 (by decide))) (own_noT hR h6 (by decide))) (own_noT hR h6 (by decide))
          refine bodyPost_equ rfl rfl (EQB.put (x0 := .int .i64 g) (x1 := .string T) (x2 := .slice a2 2 n2) h6) rfl ?_
          exact ⟨⟨_, rfl, hR9⟩, ((hk.setCell (p := ⟨w.heap.size, 0, none⟩) hp6 (.int .i64 g)).setCell (p := ⟨w.heap.size, 1, none⟩) hp6 (.string T)).setCell (p := ⟨w.heap.size, 2, none⟩) hp6 (.slice a2 2 n2)⟩
        · rw [if_pos (by rfl)]
          go_simp
          have kb := (Below.refl _ Y1).alloc (Nat.le_refl _) (.cells #[.string b1, .int .i64 v1, .bool false, .string (enc 1)] 94)
          have hc := heap_alloc_new Y1 (.cells #[.string b1, .int .i64 v1, .bool false, .string (enc 1)] 94)
          replace h6 := h6.below kb h6.lt
          replace h7 := h7.below kb h7.lt
          replace h9 := h9.below kb h9.lt
          replace hR := own_keepL kb hR
          replace hk := hk.trans (kb.mono hk.size)
          clear kb
          refine hK.out _ _ ⟨h9.c0, h9.c1⟩ (fun hS' => ?_)
          clear hK
          try simp only [put9T, List.set]
          generalize Y1.heap.size = q at hc ⊢
          generalize World.alloc Y1 _ = Y2 at hc h6 h7 h9 hR hk hS' ⊢
          refine wpAnyH_ready (rs := [1]) (by kernel_rfl) (by simp) ?_
          refine AllReadyH.cons rfl (fun K hK => ?_) AllReadyH.nil
          rw [if_pos (by rfl)]
          have z2 := h7.c2
          go_simp
          refine hK.out _ _ ⟨h9.c0, h9.c1⟩ (fun hS' => ?_)
          clear hK z2
          try simp only [put9T, List.set]
          refine wpAnyH_ready (rs := [9]) (by kernel_rfl) (by simp) ?_
          refine AllReadyH.cons rfl (fun K hK => ?_) AllReadyH.nil
          rw [if_pos (by rfl)]
          refine wp_append_own _ (.tmp 20) (.tmp 27) 66 (by rfl) w.heap.size 94 i0 (.agg #[.string ⟨#[]⟩, .int .i64 0, .bool false, .string ⟨#[]⟩]) 4 48 Tryz.underlying66 hy hy0 hy1 hy2 rfl (by decide) (.slice a1 1 n1) 1 (tmc [(b0, v0, false, enc 1)]) (by rfl) hR ⟨q, 0, none⟩ 1 1 [.string b1, .int .i64 v1, .bool false, .string (enc 1)] (by rfl) rfl (cells4 hc) (by simp [Value.oneCell']) (by unfold maxLen; omega) (by omega) hk.size ?_
          intro v' Y3 ho hg _
          have n6 := own_noT hR h6 (by decide)
          have n7 := own_noT hR h7 (by decide)
          have n9 := own_noT hR h9 (by decide)
          replace h6 : EQB Y3 w.heap.size _ _ _ := (hg.block w.heap.size h6.lt (fun e => n6 e.symm)).trans h6
          replace h7 : EQB Y3 p7 _ _ _ := (hg.block p7 h7.lt (fun e => n7 e.symm)).trans h7
          replace h9 : EXB Y3 p9 _ _ := (hg.block p9 h9.lt (fun e => n9 e.symm)).trans h9
          replace hk := hk.grown hg hk.size (fun q e => (own_ge hR q e).1)
          clear hR hc n6 n7 n9 hg
          obtain ⟨a2, n2, rfl⟩ := own_sl ho
          have hR : World.ownsRow Y3 w.heap.size 94 4 (.slice a2 2 n2) 2 (tmc [(b0, v0, false, enc 1), (b1, v1, false, enc 1)]) := ho
          clear ho
          refine hK.out _ _ ⟨h9.c0, h9.c1⟩ (fun hS' => ?_)
          clear hK
          try simp only [put9T, List.set]
          refine tkT 10 29 (.pointer (some ⟨p7, 2, none⟩)) rfl rfl (by kernel_rfl) (fun _ _ _ _ _ h => h) (.inl ⟨by rfl, fun w' hSw => (by go_simp)⟩) (by assumption) ?_
          try simp only [put9T, List.set]
          refine wpAnyH_ready (rs := [11]) (by kernel_rfl) (by simp) ?_
          refine AllReadyH.cons rfl (fun K hK => ?_) AllReadyH.nil
          rw [if_pos (by rfl)]
          have z2 := h7.c2
          have f2 := h7.f 2
          go_simp
          have n7 := own_noT hR h7 (by decide)
          replace h6 : EQB (World.setCell Y3 ⟨p7, 2, none⟩ (.slice a2 2 n2)) w.heap.size _ _ _ := (setC_other Y3 p7 w.heap.size 2 (.slice a2 2 n2) hp67).trans h6
          replace h9 : EXB (World.setCell Y3 ⟨p7, 2, none⟩ (.slice a2 2 n2)) p9 _ _ := (setC_other Y3 p7 p9 2 (.slice a2 2 n2) (own_neE h9 h7)).trans h9
          replace h7 := h7.put2 (x2 := .slice a2 2 n2)
          replace hR := own_setO (x := .slice a2 2 n2) (j := 2) hR n7
          replace hk := hk.setCell (p := ⟨p7, 2, none⟩) hp7 (.slice a2 2 n2)
          refine hK.out _ _ ⟨h9.c0, h9.c1⟩ (fun hS' => ?_)
          clear hK z2 f2 n7
          try simp only [put9T, List.set]
          generalize World.setCell Y3 _ _ = W2 at h6 h7 h9 hR hk hS' ⊢
          refine wpAnyH_done (by kernel_rfl) ?_ _
          clear hS' h9
          go_wp2_with fail
          rw [rounds_succ]
          have z0 := h7.c0
          have z1 := h7.c1
          have z2 := h7.c2
          have y0 := h6.c0
          have y1 := h6.c1
          have y2 := h6.c2
          have f0 := h6.f 0
          have f1 := h6.f 1
          have f2 := h6.f 2
          go_wp2_with fail
          have hR9 := own_setO (x := .slice a2 2 n2) (j := 2) (own_setO (x := .string T) (j := 1) (own_setO (x := .int .i64 g) (j := 0) hR (own_noT hR h6 (by decide))) (own_noT hR h6 (by decide))) (own_noT hR h6 (by decide))
          refine bodyPost_equ rfl rfl (EQB.put (x0 := .int .i64 g) (x1 := .string T) (x2 := .slice a2 2 n2) h6) rfl ?_
          exact ⟨⟨_, rfl, hR9⟩, ((hk.setCell (p := ⟨w.heap.size, 0, none⟩) hp6 (.int .i64 g)).setCell (p := ⟨w.heap.size, 1, none⟩) hp6 (.string T)).setCell (p := ⟨w.heap.size, 2, none⟩) hp6 (.slice a2 2 n2)⟩
    · rw [if_pos (by rfl)]
      go_simp
      have kb := (Below.refl _ Y1).alloc (Nat.le_refl _) (.cells #[.string b0, .int .i64 v0, .bool false, .string (enc 1)] 94)
      have hc := heap_alloc_new Y1 (.cells #[.string b0, .int .i64 v0, .bool false, .string (enc 1)] 94)
      replace h6 := h6.below kb h6.lt
      replace h7 := h7.below kb h7.lt
      replace h9 := h9.below kb h9.lt
      replace hR := own_keepL kb hR
      replace hk := hk.trans (kb.mono hk.size)
      clear kb
      refine hK.out _ _ ⟨h9.c0, h9.c1⟩ (fun hS' => ?_)
      clear hK
      try simp only [put9T, List.set]
      generalize Y1.heap.size = q at hc ⊢
      generalize World.alloc Y1 _ = Y2 at hc h6 h7 h9 hR hk hS' ⊢
      refine wpAnyH_ready (rs := [1]) (by kernel_rfl) (by simp) ?_
      refine AllReadyH.cons rfl (fun K hK => ?_) AllReadyH.nil
      rw [if_pos (by rfl)]
      have z2 := h7.c2
      go_simp
      refine hK.out _ _ ⟨h9.c0, h9.c1⟩ (fun hS' => ?_)
      clear hK z2
      try simp only [put9T, List.set]
      refine wpAnyH_ready (rs := [9]) (by kernel_rfl) (by simp) ?_
      refine AllReadyH.cons rfl (fun K hK => ?_) AllReadyH.nil
      rw [if_pos (by rfl)]
      refine wp_append_own _ (.tmp 20) (.tmp 27) 66 (by rfl) w.heap.size 94 i0 (.agg #[.string ⟨#[]⟩, .int .i64 0, .bool false, .string ⟨#[]⟩]) 4 48 Tryz.underlying66 hy hy0 hy1 hy2 rfl (by decide) (.slice none 0 0) 0 (tmc []) (by rfl) hR ⟨q, 0, none⟩ 1 1 [.string b0, .int .i64 v0, .bool false, .string (enc 1)] (by rfl) rfl (cells4 hc) (by simp [Value.oneCell']) (by unfold maxLen; omega) (by omega) hk.size ?_
      intro v' Y3 ho hg _
      have n6 := own_noT hR h6 (by decide)
      have n7 := own_noT hR h7 (by decide)
      have n9 := own_noT hR h9 (by decide)
      replace h6 : EQB Y3 w.heap.size _ _ _ := (hg.block w.heap.size h6.lt (fun e => n6 e.symm)).trans h6
      replace h7 : EQB Y3 p7 _ _ _ := (hg.block p7 h7.lt (fun e => n7 e.symm)).trans h7
      replace h9 : EXB Y3 p9 _ _ := (hg.block p9 h9.lt (fun e => n9 e.symm)).trans h9
      replace hk := hk.grown hg hk.size (fun q e => (own_ge hR q e).1)
      clear hR hc n6 n7 n9 hg
      obtain ⟨a1, n1, rfl⟩ := own_sl ho
      have hR : World.ownsRow Y3 w.heap.size 94 4 (.slice a1 1 n1) 1 (tmc [(b0, v0, false, enc 1)]) := ho
      clear ho
      refine hK.out _ _ ⟨h9.c0, h9.c1⟩ (fun hS' => ?_)
      clear hK
      try simp only [put9T, List.set]
      refine tkT 10 29 (.pointer (some ⟨p7, 2, none⟩)) rfl rfl (by kernel_rfl) (fun _ _ _ _ _ h => h) (.inl ⟨by rfl, fun w' hSw => (by go_simp)⟩) (by assumption) ?_
      try simp only [put9T, List.set]
      refine wpAnyH_ready (rs := [11]) (by kernel_rfl) (by simp) ?_
      refine AllReadyH.cons rfl (fun K hK => ?_) AllReadyH.nil
      rw [if_pos (by rfl)]
      have z2 := h7.c2
      have f2 := h7.f 2
      go_simp
      have n7 := own_noT hR h7 (by decide)
      replace h6 : EQB (World.setCell Y3 ⟨p7, 2, none⟩ (.slice a1 1 n1)) w.heap.size _ _ _ := (setC_other Y3 p7 w.heap.size 2 (.slice a1 1 n1) hp67).trans h6
      replace h9 : EXB (World.setCell Y3 ⟨p7, 2, none⟩ (.slice a1 1 n1)) p9 _ _ := (setC_other Y3 p7 p9 2 (.slice a1 1 n1) (own_neE h9 h7)).trans h9
      replace h7 := h7.put2 (x2 := .slice a1 1 n1)
      replace hR := own_setO (x := .slice a1 1 n1) (j := 2) hR n7
      replace hk := hk.setCell (p := ⟨p7, 2, none⟩) hp7 (.slice a1 1 n1)
      refine hK.out _ _ ⟨h9.c0, h9.c1⟩ (fun hS' => ?_)
      clear hK z2 f2 n7
      try simp only [put9T, List.set]
      generalize World.setCell Y3 _ _ = W1 at h6 h7 h9 hR hk hS' ⊢
      refine wpAnyH_done (by kernel_rfl) ?_ _
      clear hS' h9
      go_wp2_with fail
      rw [rounds_succ]
      have e0 := cells_keepL hk (Nat.le_refl _) _ _ c2
      have e1 := cells_keepL hk (Nat.le_refl _) _ _ c3
      have h9 := EXB.new W1 (.string b1) (.int .i64 v1)
      have kb := (Below.refl _ W1).alloc (Nat.le_refl _) (.cells #[.string b1, .int .i64 v1] 71)
      go_upto_region 5 with fail
      replace h6 := h6.below kb h6.lt
      replace h7 := h7.below kb h7.lt
      replace hR := own_keepL kb hR
      replace hk := hk.trans (kb.mono hk.size)
      clear kb e0 e1
      generalize W1.heap.size = p9 at h9 ⊢
      generalize World.alloc W1 _ = X at h6 h7 h9 hR hk ⊢
      refine wp_region_held_drew (S := fun w' => w'.cell? ⟨p9, 0, none⟩ = some (.string b1) ∧ w'.cell? ⟨p9, 1, none⟩ = some (.int .i64 v1)) (by kernel_rfl) ⟨h9.c0, h9.c1⟩ (fun hS' => ?_)
      refine tkT 0 19 (.pointer (some ⟨p7, 2, none⟩)) rfl rfl (by kernel_rfl) (fun _ _ _ _ _ h => h) (.inl ⟨by rfl, fun w' hSw => (by go_simp)⟩) (by assumption) ?_
      try simp only [put9T, List.set]
      refine tkT 2 21 (.pointer (some ⟨p9, 0, none⟩)) rfl rfl (by kernel_rfl) (fun _ _ _ _ _ h => h) (.inl ⟨by rfl, fun w' hSw => (by go_simp)⟩) (by assumption) ?_
      try simp only [put9T, List.set]
      refine tkT 3 22 (.string b1) rfl rfl (by kernel_rfl) (fun _ _ _ _ _ h => h) (.inl ⟨by rfl, fun w' hSw => (by obtain ⟨g0, g1⟩ := hSw; go_simp)⟩) (by assumption) ?_
      try simp only [put9T, List.set]
      refine tkT 4 23 (.pointer (some ⟨p9, 1, none⟩)) rfl rfl (by kernel_rfl) (fun _ _ _ _ _ h => h) (.inl ⟨by rfl, fun w' hSw => (by go_simp)⟩) (by assumption) ?_
      try simp only [put9T, List.set]
      refine tkT 5 24 (.int .i64 v1) rfl rfl (by kernel_rfl) (fun _ _ _ _ _ h => h) (.inl ⟨by rfl, fun w' hSw => (by obtain ⟨g0, g1⟩ := hSw; go_simp)⟩) (by assumption) ?_
      try simp only [put9T, List.set]
      replace h6 : EQB X.drew _ _ _ _ := h6
      replace h7 : EQB X.drew _ _ _ _ := h7
      replace h9 : EXB X.drew _ _ _ := h9
      replace hk := hk.drew
      replace hR := own_keepL (Below.refl _ X).drew hR
      generalize X.drew = Y0 at h6 h7 h9 hR hk hS' ⊢
      refine wpAnyH_ready (rs := [1, 6]) (by kernel_rfl) (by simp) ?_
      refine AllReadyH.cons rfl (fun K hK => ?_) (AllReadyH.cons rfl (fun K hK => ?_) AllReadyH.nil)
      · rw [if_pos (by rfl)]
        have z2 := h7.c2
        go_simp
        refine hK.out _ _ ⟨h9.c0, h9.c1⟩ (fun hS' => ?_)
        clear hK z2
        try simp only [put9T, List.set]
        refine wpAnyH_ready (rs := [6]) (by kernel_rfl) (by simp) ?_
        refine AllReadyH.cons rfl (fun K hK => ?_) AllReadyH.nil
        rw [if_pos (by rfl)]
        go_simp
        go_at_call 40
        refine (HO.out _).mono ?_; rintro e Y1 ⟨rfl, kb⟩
        replace h6 := h6.below kb h6.lt
        replace h7 := h7.below kb h7.lt
        replace h9 := h9.below kb h9.lt
        replace hR := own_keepL kb hR
        replace hk := hk.trans (kb.mono hk.size)
        clear kb
        refine hK.out _ _ ⟨h9.c0, h9.c1⟩ (fun hS' => ?_)
        clear hK
        try simp only [put9T, List.set]
        refine tkT 7 26 (.agg #[.string b1, .int .i64 v1, .bool false, .string (enc 1)]) rfl rfl (by kernel_rfl) (fun _ _ _ _ _ h => h) (.inl ⟨by rfl, fun w' hSw => (by go_simp)⟩) (by assumption) ?_
        try simp only [put9T, List.set]
        refine wpAnyH_ready (rs := [8]) (by kernel_rfl) (by simp) ?_
        refine AllReadyH.cons rfl (fun K hK => ?_) AllReadyH.nil
        rw [if_pos (by rfl)]
        go_simp
        have kb := (Below.refl _ Y1).alloc (Nat.le_refl _) (.cells #[.string b1, .int .i64 v1, .bool false, .string (enc 1)] 94)
        have hc := heap_alloc_new Y1 (.cells #[.string b1, .int .i64 v1, .bool false, .string (enc 1)] 94)
        replace h6 := h6.below kb h6.lt
        replace h7 := h7.below kb h7.lt
        replace h9 := h9.below kb h9.lt
        replace hR := own_keepL kb hR
        replace hk := hk.trans (kb.mono hk.size)
        clear kb
        refine hK.out _ _ ⟨h9.c0, h9.c1⟩ (fun hS' => ?_)
        clear hK
        try simp only [put9T, List.set]
        generalize Y1.heap.size = q at hc ⊢
        generalize World.alloc Y1 _ = Y2 at hc h6 h7 h9 hR hk hS' ⊢
        refine wpAnyH_ready (rs := [9]) (by kernel_rfl) (by simp) ?_
        refine AllReadyH.cons rfl (fun K hK => ?_) AllReadyH.nil
        rw [if_pos (by rfl)]
        refine wp_append_own _ (.tmp 20) (.tmp 27) 66 (by rfl) w.heap.size 94 i0 (.agg #[.string ⟨#[]⟩, .int .i64 0, .bool false, .string ⟨#[]⟩]) 4 48 Tryz.underlying66 hy hy0 hy1 hy2 rfl (by decide) (.slice a1 1 n1) 1 (tmc [(b0, v0, false, enc 1)]) (by rfl) hR ⟨q, 0, none⟩ 1 1 [.string b1, .int .i64 v1, .bool false, .string (enc 1)] (by rfl) rfl (cells4 hc) (by simp [Value.oneCell']) (by unfold maxLen; omega) (by omega) hk.size ?_
        intro v' Y3 ho hg _
        have n6 := own_noT hR h6 (by decide)
        have n7 := own_noT hR h7 (by decide)
        have n9 := own_noT hR h9 (by decide)
        replace h6 : EQB Y3 w.heap.size _ _ _ := (hg.block w.heap.size h6.lt (fun e => n6 e.symm)).trans h6
        replace h7 : EQB Y3 p7 _ _ _ := (hg.block p7 h7.lt (fun e => n7 e.symm)).trans h7
        replace h9 : EXB Y3 p9 _ _ := (hg.block p9 h9.lt (fun e => n9 e.symm)).trans h9
        replace hk := hk.grown hg hk.size (fun q e => (own_ge hR q e).1)
        clear hR hc n6 n7 n9 hg
        obtain ⟨a2, n2, rfl⟩ := own_sl ho
        have hR : World.ownsRow Y3 w.heap.size 94 4 (.slice a2 2 n2) 2 (tmc [(b0, v0, false, enc 1), (b1, v1, false, enc 1)]) := ho
        clear ho
        refine hK.out _ _ ⟨h9.c0, h9.c1⟩ (fun hS' => ?_)
        clear hK
        try simp only [put9T, List.set]
        refine tkT 10 29 (.pointer (some ⟨p7, 2, none⟩)) rfl rfl (by kernel_rfl) (fun _ _ _ _ _ h => h) (.inl ⟨by rfl, fun w' hSw => (by go_simp)⟩) (by assumption) ?_
        try simp only [put9T, List.set]
        refine wpAnyH_ready (rs := [11]) (by kernel_rfl) (by simp) ?_
        refine AllReadyH.cons rfl (fun K hK => ?_) AllReadyH.nil
        rw [if_pos (by rfl)]
        have z2 := h7.c2
        have f2 := h7.f 2
        go_simp
        have n7 := own_noT hR h7 (by decide)
        replace h6 : EQB (World.setCell Y3 ⟨p7, 2, none⟩ (.slice a2 2 n2)) w.heap.size _ _ _ := (setC_other Y3 p7 w.heap.size 2 (.slice a2 2 n2) hp67).trans h6
        replace h9 : EXB (World.setCell Y3 ⟨p7, 2, none⟩ (.slice a2 2 n2)) p9 _ _ := (setC_other Y3 p7 p9 2 (.slice a2 2 n2) (own_neE h9 h7)).trans h9
        replace h7 := h7.put2 (x2 := .slice a2 2 n2)
        replace hR := own_setO (x := .slice a2 2 n2) (j := 2) hR n7
        replace hk := hk.setCell (p := ⟨p7, 2, none⟩) hp7 (.slice a2 2 n2)
        refine hK.out _ _ ⟨h9.c0, h9.c1⟩ (fun hS' => ?_)
        clear hK z2 f2 n7
        try simp only [put9T, List.set]
        generalize World.setCell Y3 _ _ = W2 at h6 h7 h9 hR hk hS' ⊢
        refine wpAnyH_done (by kernel_rfl) ?_ _
        clear hS' h9
        go_wp2_with fail
        rw [rounds_succ]
        have z0 := h7.c0
        have z1 := h7.c1
        have z2 := h7.c2
        have y0 := h6.c0
        have y1 := h6.c1
        have y2 := h6.c2
        have f0 := h6.f 0
        have f1 := h6.f 1
        have f2 := h6.f 2
        go_wp2_with fail
        have hR9 := own_setO (x := .slice a2 2 n2) (j := 2) (own_setO (x := .string T) (j := 1) (own_setO (x := .int .i64 g) (j := 0) hR (own_noT hR h6 (by decide))) (own_noT hR h6 (by decide))) (own_noT hR h6 (by decide))
        refine bodyPost_equ rfl rfl (EQB.put (x0 := .int .i64 g) (x1 := .string T) (x2 := .slice a2 2 n2) h6) rfl ?_
        exact ⟨⟨_, rfl, hR9⟩, ((hk.setCell (p := ⟨w.heap.size, 0, none⟩) hp6 (.int .i64 g)).setCell (p := ⟨w.heap.size, 1, none⟩) hp6 (.string T)).setCell (p := ⟨w.heap.size, 2, none⟩) hp6 (.slice a2 2 n2)⟩
      · rw [if_pos (by rfl)]
        go_simp
        go_at_call 40
        refine (HO.out _).mono ?_; rintro e Y1 ⟨rfl, kb⟩
        replace h6 := h6.below kb h6.lt
        replace h7 := h7.below kb h7.lt
        replace h9 := h9.below kb h9.lt
        replace hR := own_keepL kb hR
        replace hk := hk.trans (kb.mono hk.size)
        clear kb
        refine hK.out _ _ ⟨h9.c0, h9.c1⟩ (fun hS' => ?_)
        clear hK
        try simp only [put9T, List.set]
        refine tkT 7 26 (.agg #[.string b1, .int .i64 v1, .bool false, .string (enc 1)]) rfl rfl (by kernel_rfl) (fun _ _ _ _ _ h => h) (.inl ⟨by rfl, fun w' hSw => (by go_simp)⟩) (by assumption) ?_
        try simp only [put9T, List.set]
        refine wpAnyH_ready (rs := [1, 8]) (by kernel_rfl) (by simp) ?_
        refine AllReadyH.cons rfl (fun K hK => ?_) (AllReadyH.cons rfl (fun K hK => ?_) AllReadyH.nil)
        · rw [if_pos (by rfl)]
          have z2 := h7.c2
          go_simp
          refine hK.out _ _ ⟨h9.c0, h9.c1⟩ (fun hS' => ?_)
          clear hK z2
          try simp only [put9T, List.set]
          refine wpAnyH_ready (rs := [8]) (by kernel_rfl) (by simp) ?_
          refine AllReadyH.cons rfl (fun K hK => ?_) AllReadyH.nil
          rw [if_pos (by rfl)]
          go_simp
          have kb := (Below.refl _ Y1).alloc (Nat.le_refl _) (.cells #[.string b1, .int .i64 v1, .bool false, .string (enc 1)] 94)
          have hc := heap_alloc_new Y1 (.cells #[.string b1, .int .i64 v1, .bool false, .string (enc 1)] 94)
          replace h6 := h6.below kb h6.lt
          replace h7 := h7.below kb h7.lt
          replace h9 := h9.below kb h9.lt
          replace hR := own_keepL kb hR
          replace hk := hk.trans (kb.mono hk.size)
          clear kb
          refine hK.out _ _ ⟨h9.c0, h9.c1⟩ (fun hS' => ?_)
          clear hK
          try simp only [put9T, List.set]
          generalize Y1.heap.size = q at hc ⊢
          generalize World.alloc Y1 _ = Y2 at hc h6 h7 h9 hR hk hS' ⊢
          refine wpAnyH_ready (rs := [9]) (by kernel_rfl) (by simp) ?_
          refine AllReadyH.cons rfl (fun K hK => ?_) AllReadyH.nil
          rw [if_pos (by rfl)]
          refine wp_append_own _ (.tmp 20) (.tmp 27) 66 (by rfl) w.heap.size 94 i0 (.agg #[.string ⟨#[]⟩, .int .i64 0, .bool false, .string ⟨#[]⟩]) 4 48 Tryz.underlying66 hy hy0 hy1 hy2 rfl (by decide) (.slice a1 1 n1) 1 (tmc [(b0, v0, false, enc 1)]) (by rfl) hR ⟨q, 0, none⟩ 1 1 [.string b1, .int .i64 v1, .bool false, .string (enc 1)] (by rfl) rfl (cells4 hc) (by simp [Value.oneCell']) (by unfold maxLen; omega) (by omega) hk.size ?_
          intro v' Y3 ho hg _
          have n6 := own_noT hR h6 (by decide)
          have n7 := own_noT hR h7 (by decide)
          have n9 := own_noT hR h9 (by decide)
          replace h6 : EQB Y3 w.heap.size _ _ _ := (hg.block w.heap.size h6.lt (fun e => n6 e.symm)).trans h6
          replace h7 : EQB Y3 p7 _ _ _ := (hg.block p7 h7.lt (fun e => n7 e.symm)).trans h7
          replace h9 : EXB Y3 p9 _ _ := (hg.block p9 h9.lt (fun e => n9 e.symm)).trans h9
          replace hk := hk.grown hg hk.size (fun q e => (own_ge hR q e).1)
          clear hR hc n6 n7 n9 hg
          obtain ⟨a2, n2, rfl⟩ := own_sl ho
          have hR : World.ownsRow Y3 w.heap.size 94 4 (.slice a2 2 n2) 2 (tmc [(b0, v0, false, enc 1), (b1, v1, false, enc 1)]) := ho
          clear ho
          refine hK.out _ _ ⟨h9.c0, h9.c1⟩ (fun hS' => ?_)
          clear hK
          try simp only [put9T, List.set]
          refine tkT 10 29 (.pointer (some ⟨p7, 2, none⟩)) rfl rfl (by kernel_rfl) (fun _ _ _ _ _ h => h) (.inl ⟨by rfl, fun w' hSw => (by go_simp)⟩) (by assumption) ?_
          try simp only [put9T, List.set]
          refine wpAnyH_ready (rs := [11]) (by kernel_rfl) (by simp) ?_
          refine AllReadyH.cons rfl (fun K hK => ?_) AllReadyH.nil
          rw [if_pos (by rfl)]
          have z2 := h7.c2
          have f2 := h7.f 2
          go_simp
          have n7 := own_noT hR h7 (by decide)
          replace h6 : EQB (World.setCell Y3 ⟨p7, 2, none⟩ (.slice a2 2 n2)) w.heap.size _ _ _ := (setC_other Y3 p7 w.heap.size 2 (.slice a2 2 n2) hp67).trans h6
          replace h9 : EXB (World.setCell Y3 ⟨p7, 2, none⟩ (.slice a2 2 n2)) p9 _ _ := (setC_other Y3 p7 p9 2 (.slice a2 2 n2) (own_neE h9 h7)).trans h9
          replace h7 := h7.put2 (x2 := .slice a2 2 n2)
          replace hR := own_setO (x := .slice a2 2 n2) (j := 2) hR n7
          replace hk := hk.setCell (p := ⟨p7, 2, none⟩) hp7 (.slice a2 2 n2)
          refine hK.out _ _ ⟨h9.c0, h9.c1⟩ (fun hS' => ?_)
          clear hK z2 f2 n7
          try simp only [put9T, List.set]
          generalize World.setCell Y3 _ _ = W2 at h6 h7 h9 hR hk hS' ⊢
          refine wpAnyH_done (by kernel_rfl) ?_ _
          clear hS' h9
          go_wp2_with fail
          rw [rounds_succ]
          have z0 := h7.c0
          have z1 := h7.c1
          have z2 := h7.c2
          have y0 := h6.c0
          have y1 := h6.c1
          have y2 := h6.c2
          have f0 := h6.f 0
          have f1 := h6.f 1
          have f2 := h6.f 2
          go_wp2_with fail
          have hR9 := own_setO (x := .slice a2 2 n2) (j := 2) (own_setO (x := .string T) (j := 1) (own_setO (x := .int .i64 g) (j := 0) hR (own_noT hR h6 (by decide))) (own_noT hR h6 (by decide))) (own_noT hR h6 (by decide))
          refine bodyPost_equ rfl rfl (EQB.put (x0 := .int .i64 g) (x1 := .string T) (x2 := .slice a2 2 n2) h6) rfl ?_
          exact ⟨⟨_, rfl, hR9⟩, ((hk.setCell (p := ⟨w.heap.size, 0, none⟩) hp6 (.int .i64 g)).setCell (p := ⟨w.heap.size, 1, none⟩) hp6 (.string T)).setCell (p := ⟨w.heap.size, 2, none⟩) hp6 (.slice a2 2 n2)⟩
        · rw [if_pos (by rfl)]
          go_simp
          have kb := (Below.refl _ Y1).alloc (Nat.le_refl _) (.cells #[.string b1, .int .i64 v1, .bool false, .string (enc 1)] 94)
          have hc := heap_alloc_new Y1 (.cells #[.string b1, .int .i64 v1, .bool false, .string (enc 1)] 94)
          replace h6 := h6.below kb h6.lt
          replace h7 := h7.below kb h7.lt
          replace h9 := h9.below kb h9.lt
          replace hR := own_keepL kb hR
          replace hk := hk.trans (kb.mono hk.size)
          clear kb
          refine hK.out _ _ ⟨h9.c0, h9.c1⟩ (fun hS' => ?_)
          clear hK
          try simp only [put9T, List.set]
          generalize Y1.heap.size = q at hc ⊢
          generalize World.alloc Y1 _ = Y2 at hc h6 h7 h9 hR hk hS' ⊢
          refine wpAnyH_ready (rs := [1]) (by kernel_rfl) (by simp) ?_
          refine AllReadyH.cons rfl (fun K hK => ?_) AllReadyH.nil
          rw [if_pos (by rfl)]
          have z2 := h7.c2
          go_simp
          refine hK.out _ _ ⟨h9.c0, h9.c1⟩ (fun hS' => ?_)
          clear hK z2
          try simp only [put9T, List.set]
          refine wpAnyH_ready (rs := [9]) (by kernel_rfl) (by simp) ?_
          refine AllReadyH.cons rfl (fun K hK => ?_) AllReadyH.nil
          rw [if_pos (by rfl)]
          refine wp_append_own _ (.tmp 20) (.tmp 27) 66 (by rfl) w.heap.size 94 i0 (.agg #[.string ⟨#[]⟩, .int .i64 0, .bool false, .string ⟨#[]⟩]) 4 48 Tryz.underlying66 hy hy0 hy1 hy2 rfl (by decide) (.slice a1 1 n1) 1 (tmc [(b0, v0, false, enc 1)]) (by rfl) hR ⟨q, 0, none⟩ 1 1 [.string b1, .int .i64 v1, .bool false, .string (enc 1)] (by rfl) rfl (cells4 hc) (by simp [Value.oneCell']) (by unfold maxLen; omega) (by omega) hk.size ?_
          intro v' Y3 ho hg _
          have n6 := own_noT hR h6 (by decide)
          have n7 := own_noT hR h7 (by decide)
          have n9 := own_noT hR h9 (by decide)
          replace h6 : EQB Y3 w.heap.size _ _ _ := (hg.block w.heap.size h6.lt (fun e => n6 e.symm)).trans h6
          replace h7 : EQB Y3 p7 _ _ _ := (hg.block p7 h7.lt (fun e => n7 e.symm)).trans h7
          replace h9 : EXB Y3 p9 _ _ := (hg.block p9 h9.lt (fun e => n9 e.symm)).trans h9
          replace hk := hk.grown hg hk.size (fun q e => (own_ge hR q e).1)
          clear hR hc n6 n7 n9 hg
          obtain ⟨a2, n2, rfl⟩ := own_sl ho
          have hR : World.ownsRow Y3 w.heap.size 94 4 (.slice a2 2 n2) 2 (tmc [(b0, v0, false, enc 1), (b1, v1, false, enc 1)]) := ho
          clear ho
          refine hK.out _ _ ⟨h9.c0, h9.c1⟩ (fun hS' => ?_)
          clear hK
          try simp only [put9T, List.set]
          refine tkT 10 29 (.pointer (some ⟨p7, 2, none⟩)) rfl rfl (by kernel_rfl) (fun _ _ _ _ _ h => h) (.inl ⟨by rfl, fun w' hSw => (by go_simp)⟩) (by assumption) ?_
          try simp only [put9T, List.set]
          refine wpAnyH_ready (rs := [11]) (by kernel_rfl) (by simp) ?_
          refine AllReadyH.cons rfl (fun K hK => ?_) AllReadyH.nil
          rw [if_pos (by rfl)]
          have z2 := h7.c2
          have f2 := h7.f 2
          go_simp
          have n7 := own_noT hR h7 (by decide)
          replace h6 : EQB (World.setCell Y3 ⟨p7, 2, none⟩ (.slice a2 2 n2)) w.heap.size _ _ _ := (setC_other Y3 p7 w.heap.size 2 (.slice a2 2 n2) hp67).trans h6
          replace h9 : EXB (World.setCell Y3 ⟨p7, 2, none⟩ (.slice a2 2 n2)) p9 _ _ := (setC_other Y3 p7 p9 2 (.slice a2 2 n2) (own_neE h9 h7)).trans h9
          replace h7 := h7.put2 (x2 := .slice a2 2 n2)
          replace hR := own_setO (x := .slice a2 2 n2) (j := 2) hR n7
          replace hk := hk.setCell (p := ⟨p7, 2, none⟩) hp7 (.slice a2 2 n2)
          refine hK.out _ _ ⟨h9.c0, h9.c1⟩ (fun hS' => ?_)
          clear hK z2 f2 n7
          try simp only [put9T, List.set]
          generalize World.setCell Y3 _ _ = W2 at h6 h7 h9 hR hk hS' ⊢
          refine wpAnyH_done (by kernel_rfl) ?_ _
          clear hS' h9
          go_wp2_with fail
          rw [rounds_succ]
          have z0 := h7.c0
          have z1 := h7.c1
          have z2 := h7.c2
          have y0 := h6.c0
          have y1 := h6.c1
          have y2 := h6.c2
          have f0 := h6.f 0
          have f1 := h6.f 1
          have f2 := h6.f 2
          go_wp2_with fail
          have hR9 := own_setO (x := .slice a2 2 n2) (j := 2) (own_setO (x := .string T) (j := 1) (own_setO (x := .int .i64 g) (j := 0) hR (own_noT hR h6 (by decide))) (own_noT hR h6 (by decide))) (own_noT hR h6 (by decide))
          refine bodyPost_equ rfl rfl (EQB.put (x0 := .int .i64 g) (x1 := .string T) (x2 := .slice a2 2 n2) h6) rfl ?_
          exact ⟨⟨_, rfl, hR9⟩, ((hk.setCell (p := ⟨w.heap.size, 0, none⟩) hp6 (.int .i64 g)).setCell (p := ⟨w.heap.size, 1, none⟩) hp6 (.string T)).setCell (p := ⟨w.heap.size, 2, none⟩) hp6 (.slice a2 2 n2)⟩
  -- @@R5
end Go.Proofs.YtdlbnioidfhhcaaGreat
