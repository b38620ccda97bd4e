import Derived.Test.YtjminjliomffaaaDoorCeG
import Derived.Shelf.Sort.Plain
import Derived.Sort.OwnSortedInts
import Derived.Shelf.Lay
import Derived.Laws.EntriesVeiled
/- slices.Sort on integers: the library's contract at this program. -/
namespace Go.Proofs
open Go.Shelf Go.Sort Go.RowKit
shelf_lay Lays.n189 Nm 189 at Tryd as Tryd.lays189
end Go.Proofs
namespace Go.Proofs.YtjminjliomffaaaDoor
open Go.RowKit Go.Sort Go.Shelf
/-- the library's sort sorts -/
theorem sortC : SortC := fun B blk cap zs w ho hl => by
  rcases ho.2 with ⟨e, _⟩ | ⟨g, cap', cur, e, hb, hg, h1, h2, h3, h4⟩
  · cases e
  · cases e
    refine (Any.slices_Sort_int Tryd.lays189 blk 0 cap zs w (holds_of_blockI hg (by simpa using h4)) (Array.getElem?_eq_some_iff.1 hg).1 (by omega)).mono ?_
    rintro e w' ⟨rfl, n, os, rfl⟩
    exact ⟨rfl, ownsRow_sortedI (by simp) hb hg h1 h2 h3, grownBy_sortedI _⟩
end Go.Proofs.YtjminjliomffaaaDoor

/- certificate.Find. -/
namespace Go.Proofs.YtjminjliomffaaaDoor
open Go.RowKit Num Go.Maps
set_option maxRecDepth 20000
set_option linter.unusedVariables false
theorem info_Ct : (Tryd.prog.info? 33).map (·.size) = some 1 := by kernel_rfl
theorem bodyPost_ct {fn : Func} {R : Ending → World → Prop} {p u : Tmp} {a : Act} {W : World} {b : Nat} {v0 v : Value} (h : fn.results = #[.cell p 33, .tmp u]) (hp : a.tmps.getD p undef = .pointer (some ⟨b, 0, none⟩)) (hu : a.tmps.getD u undef = v)
    (hb : W.heap[b]? = some (.cells #[v0] 33 (0, 0))) (hd : a.defers = []) (hR : R (.returned (.tuple #[.agg #[v0], v])) W) : bodyPost Tryd.prog fn R Exit.ret a W := by
  refine bodyPost_ret (v := .tuple #[.agg #[v0], v]) (w := W) ?_ hd hR
  rw [results_cell_tmp h, hp, hu]
  simp [asAddr, run_loadVar_row W b _ _ _ (0, 0) _ hb Tryd.underlying33 rfl info_Ct]
/-- the closure, at every number -/
theorem add_any (B bi bs ba bm : Nat) (n : Nat) : ∀ (hn : blen n ≤ 128) (w : World) (v : Value) (S : List StR) (D : DataW Unit), FW w B bi bs ba bm v S D → S.length + wt n ≤ 500000 →
    Calls Tryd.prog 27 #[.string (enc n), .pointer (some ⟨bi, 0, none⟩), .pointer (some ⟨bs, 0, none⟩), .pointer (some ⟨ba, 0, none⟩)] w (AP w B bi bs ba bm v S n) := by
  induction n using Nat.strongRecOn with
  | ind n ih =>
    intro hn w v S D h hS
    cases hk : knownB (S.map stp) n
    · cases ht : tinyB n
      · cases hp : probB n
        · exact add_bad n hn w B bi bs ba bm v S D h hk ht hp
        · exact add_step sortC n hn w B bi bs ba bm v S D h hk ht hp hS fun f hf w v S D h hS => ih f hf (Nat.le_trans (blen_mono (Nat.le_of_lt hf)) hn) w v S D h hS
      · exact add_tiny n hn w B bi bs ba bm v S D h hk ht (by omega)
    · exact add_known n hn w B bi bs ba bm v S D h hk
theorem cellsS_at (S : List StR) : ∀ (k j : Nat) (hk : k < S.length), j < 3 → (cellsS S)[k * 3 + j]? = [Value.string S[k].1, .string S[k].2.1, .slice S[k].2.2.1 S[k].2.2.2.2.length S[k].2.2.2.1][j]? := by
  induction S with
  | nil => intro k j hk; simp at hk
  | cons r S ih =>
    intro k j hk hj
    cases k with
    | zero =>
      show ([Value.string r.1, .string r.2.1, .slice r.2.2.1 r.2.2.2.2.length r.2.2.2.1] ++ cellsS S)[0 * 3 + j]? = _
      rw [List.getElem?_append_left (by simp; omega)]
      simp
    | succ k =>
      show ([Value.string r.1, .string r.2.1, .slice r.2.2.1 r.2.2.2.2.length r.2.2.2.1] ++ cellsS S)[(k + 1) * 3 + j]? = _
      rw [List.getElem?_append_right (by simp; omega)]
      have := ih k j (by simpa using hk) hj
      rw [show (k + 1) * 3 + j - [Value.string r.1, .string r.2.1, .slice r.2.2.1 r.2.2.2.2.length r.2.2.2.1].length = k * 3 + j by simp; omega, this]
      rfl
theorem fs_of_row {w : World} {B : Nat} {r : StR} (h : FR w B r) : FS w r.2.2.1 r.2.2.2.2 := by
  intro k hk
  unfold FR at h
  have h' := h
  rcases h.2 with ⟨_, h0⟩ | ⟨g, cap, cur, e, _, _, _⟩
  · omega
  · injection e with e1 e2 e3
    rw [e1] at h' ⊢
    refine ⟨g, 0, rfl, ?_⟩
    rw [Nat.zero_add, h'.cellAt k (by omega)]
    simp [hk]
theorem cs_of {w : World} {B c : Nat} {a : Option Addr} {S : List StR} (ho : w.ownsRow B 44 3 (.slice a S.length c) S.length (cellsS S)) (hfs : ∀ r ∈ S, FR w B r) : CS w a S := by
  intro k hk
  have ho' := ho
  rcases ho.2 with ⟨_, h0⟩ | ⟨g, cap, cur, e, _, _, _⟩
  · omega
  · injection e with e1 e2 e3
    subst e1
    have ch : ∀ j, j < 3 → w.cell? ⟨g, k * 3 + j, none⟩ = [Value.string S[k].1, .string S[k].2.1, .slice S[k].2.2.1 S[k].2.2.2.2.length S[k].2.2.2.1][j]? := fun j hj => by
      rw [ho'.cellAt (k * 3 + j) (by omega), cellsS_at S k j hk hj]
    refine ⟨g, 0, rfl, ?_, ?_, ?_, fs_of_row (hfs _ (List.getElem_mem hk))⟩
    · rw [Nat.zero_add]; exact ch 0 (by omega)
    · rw [Nat.zero_add]; exact ch 1 (by omega)
    · rw [Nat.zero_add]; exact ch 2 (by omega)
theorem fr_len {w : World} {B : Nat} {r : StR} (h : FR w B r) : r.2.2.2.2.length ≤ maxLen := by
  unfold FR at h
  rcases h.2 with ⟨_, h0⟩ | ⟨g, cap, cur, e, _, _, h1, h2, _⟩
  · rw [h0]; exact Nat.zero_le _
  · exact Nat.le_trans h1 h2
theorem fw_start (w : World) (hT : Tab w) : FW (((((w.alloc (.cells #[.slice none 0 0] 33)).alloc (.cells #[.slice none 0 0] 31)).alloc (.map #[] 0)).alloc (.cells #[.map (some (w.heap.size + 1 + 1))] 59)).alloc (.cells #[addV (w.heap.size + 1 + 1 + 1) (w.heap.size + 1) (w.heap.size + 1 + 1 + 1 + 1)] 60))
    w.heap.size (w.heap.size + 1 + 1 + 1) (w.heap.size + 1) (w.heap.size + 1 + 1 + 1 + 1) (w.heap.size + 1 + 1) (.slice none 0 0) [] (.map []) := by
  have hg : 0 < w.heap.size := World.block_lt_of_cell? w _ (hT 0 (by omega))
  obtain ⟨w1, h1⟩ : ∃ w1, w.alloc (.cells #[.slice none 0 0] 33) = w1 := ⟨_, rfl⟩
  have z1 : w1.heap.size = w.heap.size + 1 := by rw [← h1, World.size_alloc]
  have b1 : Below w.heap.size w w1 := by rw [← h1]; exact (Below.refl _ w).alloc (Nat.le_refl _) _
  rw [h1, ← z1]
  obtain ⟨w2, h2⟩ : ∃ w2, w1.alloc (.cells #[.slice none 0 0] 31) = w2 := ⟨_, rfl⟩
  have z2 : w2.heap.size = w1.heap.size + 1 := by rw [← h2, World.size_alloc]
  have b2 : Below w1.heap.size w1 w2 := by rw [← h2]; exact (Below.refl _ w1).alloc (Nat.le_refl _) _
  have x2 : w2.heap[w1.heap.size]? = some (.cells #[.slice none 0 0] 31 (0, 0)) := by rw [← h2]; exact heap_alloc_new w1 _
  rw [h2, ← z2]
  obtain ⟨w3, h3⟩ : ∃ w3, w2.alloc (.map #[] 0) = w3 := ⟨_, rfl⟩
  have z3 : w3.heap.size = w2.heap.size + 1 := by rw [← h3, World.size_alloc]
  have b3 : Below w2.heap.size w2 w3 := by rw [← h3]; exact (Below.refl _ w2).alloc (Nat.le_refl _) _
  have x3 : w3.ownsMap Tryd.prog 27 (plainElem (H := Unit) Tryd.prog 3) w2.heap.size 0 (.map []) := by rw [← h3]; exact World.ownsMap_made w2 _ _ _
  rw [h3, ← z3]
  obtain ⟨w4, h4⟩ : ∃ w4, w3.alloc (.cells #[.map (some w2.heap.size)] 59) = w4 := ⟨_, rfl⟩
  have z4 : w4.heap.size = w3.heap.size + 1 := by rw [← h4, World.size_alloc]
  have b4 : Below w3.heap.size w3 w4 := by rw [← h4]; exact (Below.refl _ w3).alloc (Nat.le_refl _) _
  have x4 : w4.heap[w3.heap.size]? = some (.cells #[.map (some w2.heap.size)] 59 (0, 0)) := by rw [← h4]; exact heap_alloc_new w3 _
  rw [h4, ← z4]
  obtain ⟨w5, h5⟩ : ∃ w5, w4.alloc (.cells #[addV w3.heap.size w1.heap.size w4.heap.size] 60) = w5 := ⟨_, rfl⟩
  have b5 : Below w4.heap.size w4 w5 := by rw [← h5]; exact (Below.refl _ w4).alloc (Nat.le_refl _) _
  have x5 : w5.heap[w4.heap.size]? = some (.cells #[addV w3.heap.size w1.heap.size w4.heap.size] 60 (0, 0)) := by rw [← h5]; exact heap_alloc_new w4 _
  have m5 : w5.ownsMap Tryd.prog 27 (plainElem (H := Unit) Tryd.prog 3) w2.heap.size 0 (.map []) := by rw [← h5, ← h4]; exact (x3.alloc _).alloc _
  rw [h5]
  have bb : Below w.heap.size w w5 := ((((b1.trans (b2.mono (by omega))).trans (b3.mono (by omega))).trans (b4.mono (by omega))).trans (b5.mono (by omega)))
  exact {
    xi := by rw [b5.block _ (by omega)]; exact x4
    xs := by rw [b5.block _ (by omega), b4.block _ (by omega), b3.block _ (by omega)]; exact x2
    xa := x5
    own := World.ownsRow_nil _ _ _ _
    fs := fun r hr => by cases hr
    map := m5
    hi := by omega
    hs := by omega
    ha := by omega
    hm := by omega
    hg := hg
    tab := hT.below bb
    dk := fun n hn => ⟨rfl, fun h => by cases h⟩ }
/-- what Find answers -/
def FindR (s : ByteArray) (E : Int) (L : List Stp) : Prop :=
  (validB s = false ∧ E = 3 ∧ L = []) ∨ (validB s = true ∧ E ≠ 0 ∧ L = [] ∧ ∃ S, AddL [nv s] [] E S) ∨ (validB s = true ∧ E = 0 ∧ AddL [nv s] [] 0 L)
def FindP (s : ByteArray) (w : World) : Ending → World → Prop := fun e w' => (∃ (a : Option Addr) (r c : Nat) (R : List StR) (E : Int), e = .returned (.tuple #[.agg #[.slice a r c], .int .i64 E]) ∧ R.length = r ∧ CS w' a R ∧ r ≤ 500000 ∧ (∀ x ∈ R, x.2.2.2.2.length ≤ maxLen) ∧ FindR s E (R.map stp)) ∧ Below w.heap.size w w'
set_option maxHeartbeats 4000000 in
theorem ceFind_any (s : ByteArray) (w : World) (hT : Tab w) : Calls Tryd.prog 12 #[.string s] w (FindP s w) := by
  have hb := (Below.refl _ w).alloc (Nat.le_refl _) (.cells #[.slice none 0 0] 33)
  have hS := CtB.new w (.slice none 0 0)
  unfold CtB at hS
  cases hv : validB s
  · have HV := Lib.hid (validQ hv)
    have hP : FindP s w (.returned (.tuple #[.agg #[.slice none 0 0], .int .i64 3])) (w.alloc (.cells #[.slice none 0 0] 33)) := ⟨⟨none, 0, 0, [], 3, rfl, rfl, CS.nil _ _, by omega, by simp, .inl ⟨hv, rfl, rfl⟩⟩, hb⟩
    have HP := Lib.hid hP
    clear hv hP
    go_enter Tryd.func12, Tryd.ntmps12
    go_wp2_with fail
    refine (HV.out _).mono ?_; rintro e w1 ⟨rfl, rfl⟩
    go_wp2_with fail
    exact bodyPost_ct rfl rfl rfl hS rfl HP.out
  · have HV := Lib.hid (validQ hv)
    have hN := isN_of hv
    have hwt : wt (nv s) ≤ 400000 := by
      have h1 := pow1024 hN.le
      unfold wt
      split
      · omega
      · have : Nat.log2 (nv s) < 1024 := by rw [Nat.log2_lt (by omega)]; exact h1
        omega
    have hg : 0 < w.heap.size := World.block_lt_of_cell? w _ (hT 0 (by omega))
    have hmm := @run_makeMap Tryd.prog
    have HN := Lib.hid (And.intro hN hwt)
    have HTT := Lib.hid (And.intro hT (And.intro hg hv))
    clear hv hN hwt hT hg
    go_enter Tryd.func12, Tryd.ntmps12
    go_wp2_with fail
    refine (HV.out _).mono ?_; rintro e w1 ⟨rfl, rfl⟩
    go_wp2_with fail
    have h0 := fw_start w HTT.out.1
    have hb0 : Below w.heap.size w (((((w.alloc (.cells #[.slice none 0 0] 33)).alloc (.cells #[.slice none 0 0] 31)).alloc (.map #[] 0)).alloc (.cells #[.map (some (w.heap.size + 1 + 1))] 59)).alloc (.cells #[addV (w.heap.size + 1 + 1 + 1) (w.heap.size + 1) (w.heap.size + 1 + 1 + 1 + 1)] 60)) :=
      ((((hb.alloc hb.size _).alloc (by simp; omega) _).alloc (by simp; omega) _).alloc (by simp; omega) _)
    have hR0 : (((((w.alloc (.cells #[.slice none 0 0] 33)).alloc (.cells #[.slice none 0 0] 31)).alloc (.map #[] 0)).alloc (.cells #[.map (some (w.heap.size + 1 + 1))] 59)).alloc (.cells #[addV (w.heap.size + 1 + 1 + 1) (w.heap.size + 1) (w.heap.size + 1 + 1 + 1 + 1)] 60)).heap[w.heap.size]? = some (.cells #[.slice none 0 0] 33 (0, 0)) := by
      rw [Below.heap_alloc _ _ _ (by simp; omega), Below.heap_alloc _ _ _ (by simp; omega), Below.heap_alloc _ _ _ (by simp; omega), Below.heap_alloc _ _ _ (by simp)]
      exact hS
    unfold addV at h0 hb0 hR0
    have HSE : Hid (s = enc (nv s)) := HN.out.1.eq
    generalize World.alloc _ _ = w0 at h0 hb0 hR0 ⊢
    have hAD := add_any w.heap.size (w.heap.size + 1 + 1 + 1) (w.heap.size + 1) (w.heap.size + 1 + 1 + 1 + 1) (w.heap.size + 1 + 1) (nv s) HN.out.1.le w0 _ [] _ h0 (by have := HN.out.2; simp; omega)
    rw [← HSE.out] at hAD
    refine hAD.mono ?_
    rintro e w2 ⟨E, S', v', D', rfl, hA, hF, hf, hS'⟩
    have hB2 := hb0.trans (h0.below hf)
    have hR2 : w2.heap[w.heap.size]? = some (.cells #[.slice none 0 0] 33 (0, 0)) := by
      obtain ⟨es, cm, hmt⟩ := h0.mapT
      rw [hf.block _ (Array.getElem?_eq_some_iff.1 hR0).1 (by omega) (by omega) (by intro e; cases e)]
      exact hR0
    have x0 : w2.cell? ⟨w.heap.size, 0, none⟩ = some (.slice none 0 0) := by rw [Lib.cell_of_heap hR2]; rfl
    have x1 : w2.frozen? ⟨w.heap.size, 0, none⟩ = false := Lib.frozen_of_heap hR2 0
    have hlen := AddL.size hA (fun f hf => by rw [List.mem_singleton.1 hf]; exact pow1024 HN.out.1.le)
    have hl2 : S'.length ≤ 500000 := by
      have := HN.out.2
      simp only [List.length_map, List.map_nil, List.length_nil, wts] at hlen
      omega
    by_cases hE : E = 0
    · subst hE
      obtain ⟨a, c, rfl⟩ := own_form hF.own
      have x2 := hF.cs
      have hP : FindP s w (.returned (.tuple #[.agg #[.slice a S'.length c], .int .i64 0])) (w2.setCell ⟨w.heap.size, 0, none⟩ (.slice a S'.length c)) := by
        have kp : ∀ {K e size m : Nat} {y : Value} {xs : List Value}, w2.ownsRow K e size y m xs → e ≠ 33 → (w2.setCell ⟨w.heap.size, 0, none⟩ (.slice a S'.length c)).ownsRow K e size y m xs := fun ho he => ownsRow_at ho fun g hg => Below.heap_setCell _ _ _ _ fun e2 => row_ne ho (k := w.heap.size) (fun cur => by rw [hR2]; intro e3; cases e3; exact he rfl) (by rw [hg, e2])
        exact ⟨⟨a, _, c, S', 0, rfl, rfl, cs_of (kp hF.own (by decide)) (fun r hr => kp (hF.fs r hr) (by decide)), hl2, (fun r hr => fr_len (hF.fs r hr)), .inr (.inr ⟨HTT.out.2.2, rfl, hA⟩)⟩, hB2.setCell (p := ⟨w.heap.size, 0, none⟩) (Nat.le_refl _) _⟩
      have HP := Lib.hid hP
      have HR := Lib.hid (put1' (j := 0) (v := .slice a S'.length c) hR2)
      clear hP hA hF hf hS' hR2 hlen hAD h0 hR0
      go_wp2_with fail
      exact bodyPost_ct rfl rfl rfl HR.out rfl HP.out
    · have hP : FindP s w (.returned (.tuple #[.agg #[.slice none 0 0], .int .i64 E])) (w2.setCell ⟨w.heap.size, 0, none⟩ (.slice none 0 0)) :=
        ⟨⟨none, 0, 0, [], E, rfl, rfl, CS.nil _ _, by omega, by simp, .inr (.inl ⟨HTT.out.2.2, hE, rfl, _, hA⟩)⟩, hB2.setCell (p := ⟨w.heap.size, 0, none⟩) (Nat.le_refl _) _⟩
      have HP := Lib.hid hP
      have HR := Lib.hid (put1' (j := 0) (v := .slice none 0 0) hR2)
      have hE2 : (E == 0) = false := by rw [beq_eq_false_iff_ne]; exact hE
      clear hP hA hF hf hS' hR2 hlen hAD h0 hR0
      go_wp2_with fail
      exact bodyPost_ct rfl rfl rfl HR.out rfl HP.out
end Go.Proofs.YtjminjliomffaaaDoor

/- What Find and Check answer at the examples of the chapter. No program in sight. -/
namespace Go.Proofs.YtjminjliomffaaaDoor
open Num
set_option maxRecDepth 20000
theorem facs65537 : facs 65537 = [2] := by decide +kernel
theorem known0 (n : Nat) : knownB [] n = false := rfl
theorem tiny65537 : tinyB 65537 = false := by decide +kernel
theorem tiny2 : tinyB 2 = true := by decide +kernel
theorem prob65537 : probB 65537 = true := by decide +kernel
theorem enough65537 : enoughB 65537 = true := by decide +kernel
theorem prov3 : provB 65537 3 [2] = true := by decide +kernel
theorem prov2 : provB 65537 2 [2] = false := by decide +kernel
/-- the certificate of 65537 -/
def cert65537 : List Stp := [(enc 2, ⟨#[]⟩, []), (enc 65537, enc 3, [0])]
theorem step65537 : stepS [tinyS 2] 65537 3 = (enc 65537, enc 3, [0]) := by
  unfold stepS
  rw [facs65537]
  have e : idx [tinyS 2] 2 = 0 := by decide +kernel
  simp [e]
theorem add2 {e : Int} {S : List Stp} (h : AddL [2] [] e S) : e = 0 ∧ S = [tinyS 2] := by
  cases h with
  | known h _ => rw [known0] at h; cases h
  | tiny _ _ h => cases h; exact ⟨rfl, rfl⟩
  | bad _ h => rw [tiny2] at h; cases h
  | few _ h => rw [tiny2] at h; cases h
  | sub _ h => rw [tiny2] at h; cases h
  | none _ h => rw [tiny2] at h; cases h
  | step _ h => rw [tiny2] at h; cases h
theorem add65537 {e : Int} {S : List Stp} (h : AddL [65537] [] e S) : e = 0 ∧ S = cert65537 := by
  cases h with
  | known h _ => rw [known0] at h; cases h
  | tiny _ h _ => rw [tiny65537] at h; cases h
  | bad _ _ h => rw [prob65537] at h; cases h
  | few _ _ _ h => rw [enough65537] at h; cases h
  | sub _ _ _ _ h h0 => rw [facs65537] at h; exact absurd (add2 h).1 h0
  | none _ _ _ _ h hb =>
    rw [facs65537] at hb
    have hb' : ∀ x, 2 ≤ x → x < 65537 → provB 65537 x [2] = false := hb
    have := hb' 3 (by omega) (by omega)
    rw [prov3] at this; cases this
  | @step _ _ _ S1 b _ _ _ _ _ _ h hb h2 =>
    rw [facs65537] at h hb
    obtain ⟨_, rfl⟩ := add2 h
    obtain ⟨b1, b2, b3, b4⟩ := hb
    cases h2
    refine ⟨rfl, ?_⟩
    have hb3 : b = 3 := by
      rcases Nat.lt_trichotomy b 3 with h | h | h
      · have : b = 2 := by omega
        subst this
        rw [prov2] at b3; cases b3
      · exact h
      · have := b4 3 (by omega) h
        rw [prov3] at this; cases this
    subst hb3
    rw [step65537]
    rfl
theorem ck65537 : ckC cert65537 = 0 := by decide +kernel
theorem pr65537 : prC cert65537 = enc 65537 := by decide +kernel
/-- the certificate that is not correct -/
def certBad : List Stp := [(enc 2, ⟨#[]⟩, []), (enc 3, ⟨#[]⟩, []), (enc 5, ⟨#[]⟩, []), (enc 91, enc 3, [0, 1, 2])]
theorem ckBad : ckC certBad = 12 := by decide +kernel
theorem valid65537 : validB (enc 65537) = true := by decide +kernel
theorem nv65537 : nv (enc 65537) = 65537 := nv_enc _
theorem find65537 {E : Int} {L : List Stp} (h : FindR (enc 65537) E L) : E = 0 ∧ L = cert65537 := by
  rcases h with ⟨h, _⟩ | ⟨_, h, _, S, k⟩ | ⟨_, h, k⟩
  · rw [valid65537] at h; cases h
  · rw [nv65537] at k; exact absurd (add65537 k).1 h
  · rw [nv65537] at k; exact ⟨h, (add65537 k).2⟩
end Go.Proofs.YtjminjliomffaaaDoor
