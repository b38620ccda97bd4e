/- witness: the iterator over lists of handles; formed, nonzero. -/
import Derived.Test.YtcjbbneiobnmkaaExp
import Derived.Test.YtcjbbneiobnmkaaPwC
import Derived.Test.YtcjbbneiobnmkaaPwF
namespace Go.Proofs.Ytcjbbneiobnmkaa
open Go.RowKit Go.Shelf Num
set_option maxRecDepth 20000
set_option linter.unusedVariables false
attribute [local go_sem] Oper.semAt_some
/-- a list with its header: where it lies, its capacity -/
abbrev Row := Option Addr × Nat × List ByteArray
/-- the lists of a slice of lists -/
def RS (w : World) (a : Option Addr) (R : List Row) : Prop :=
  ∀ k (h : k < R.length), ∃ b off, a = some ⟨b, off, none⟩ ∧ w.cell? ⟨b, off + k, none⟩ = some (.slice R[k].1 R[k].2.2.length R[k].2.1) ∧ NS w R[k].1 R[k].2.2
/-- the handles of lists -/
def flat (R : List Row) : List ByteArray := (R.map fun x => x.2.2).flatten
theorem RS.keep {w w' : World} {a : Option Addr} {R : List Row} (h : RS w a R) (hk : ∀ p v, w.cell? p = some v → w'.cell? p = some v) : RS w' a R := fun k hk' => by
  obtain ⟨b, off, h1, h2, h3⟩ := h k hk'
  refine ⟨b, off, h1, hk _ _ h2, fun j hj => ?_⟩
  obtain ⟨b2, o2, h4, h5⟩ := h3 j hj
  exact ⟨b2, o2, h4, hk _ _ h5⟩
theorem keep_of_below {w w' : World} {K : Nat} (hb : Below K w w') (hK : w.heap.size ≤ K) : ∀ p v, w.cell? p = some v → w'.cell? p = some v := fun p v hv => by
  have h2 : p.block < w.heap.size := World.block_lt_of_cell? w _ hv
  rw [hb.cell (p := p) (by omega)]
  exact hv
theorem RS.below {w w' : World} {a : Option Addr} {R : List Row} {K : Nat} (h : RS w a R) (hb : Below K w w') (hK : w.heap.size ≤ K) : RS w' a R := h.keep (keep_of_below hb hK)
theorem RS.row {w : World} {a : Option Addr} {R : List Row} (h : RS w a R) {k : Nat} (hk : k < R.length) : NS w R[k].1 R[k].2.2 := by
  obtain ⟨_, _, _, _, h⟩ := h k hk
  exact h
theorem RS.nil (w : World) (a : Option Addr) : RS w a [] := fun k hk => by simp at hk
/-- what the iterator reads stays -/
def KeepR (Bn : Nat) (a : Option Addr) (R : List Row) (W W' : World) : Prop := KeepCell Bn W W' ∧ (RS W a R → RS W' a R)
theorem KeepR.of_cells {Bn : Nat} {a : Option Addr} {R : List Row} {W W' : World} (hk : ∀ p v, W.cell? p = some v → W'.cell? p = some v) : KeepR Bn a R W W' := ⟨fun v hv => hk _ v hv, fun h => h.keep hk⟩
theorem KeepR.of_below {Bn : Nat} {a : Option Addr} {R : List Row} {W W' : World} (hb : Below W.heap.size W W') : KeepR Bn a R W W' := .of_cells (keep_of_below hb (Nat.le_refl _))
theorem KeepR.trans {Bn : Nat} {a : Option Addr} {R : List Row} {A B C : World} (h : KeepR Bn a R A B) (k : KeepR Bn a R B C) : KeepR Bn a R A C := ⟨fun v hv => k.1 v (h.1 v hv), fun x => k.2 (h.2 x)⟩
theorem flat_succ (R : List Row) (k : Nat) (hk : k < R.length) : flat (R.take (k + 1)) = flat (R.take k) ++ R[k].2.2 := by
  unfold flat
  rw [List.take_succ_eq_append_getElem hk, List.map_append, List.flatten_append]; simp
theorem flat_pre (R : List Row) (k j : Nat) (hk : k < R.length) : flat (R.take k) ++ R[k].2.2.take j <+: flat R := by
  have h1 : flat R = flat (R.take k) ++ (R[k].2.2 ++ flat (R.drop (k + 1))) := by
    unfold flat
    conv => lhs; rw [← List.take_append_drop k R, List.map_append, List.flatten_append, List.drop_eq_getElem_cons hk, List.map_cons, List.flatten_cons]
  rw [h1]
  refine (List.prefix_append_right_inj _).2 ?_
  exact (List.take_prefix j _).trans (List.prefix_append _ _)
theorem flat_lt (R : List Row) (k j : Nat) (hk : k < R.length) (hj : j < R[k].2.2.length) : (flat (R.take k) ++ R[k].2.2.take j).length < (flat R).length := by
  have h := (flat_pre R k (j + 1) hk).length_le
  rw [List.take_succ_eq_append_getElem hj] at h
  simp only [List.length_append, List.length_singleton] at h ⊢
  omega
theorem flat_next (R : List Row) (k j : Nat) (hk : k < R.length) (hj : j < R[k].2.2.length) : flat (R.take k) ++ R[k].2.2.take (j + 1) = (flat (R.take k) ++ R[k].2.2.take j) ++ [R[k].2.2[j]] := by
  rw [List.take_succ_eq_append_getElem hj, List.append_assoc]
theorem handles_any (a : Option Addr) (r c : Nat) (w : World) :
    Calls Try.prog 28 #[.slice a r c] w fun e w' => e = .returned (.func (.func 38) #[] #[.pointer (some ⟨w.heap.size, 0, none⟩)]) ∧ w' = w.alloc (.cells #[.slice a r c] 58) := by
  go_enter Try.func28, Try.ntmps28
  go_wp2
  go_ret
  exact ⟨rfl, rfl⟩
set_option maxRecDepth 100000 in
set_option maxHeartbeats 4000000 in
theorem hnd1_in (n : Nat) (hn : 1 ≤ n) (l Bn : Nat) (a : Option Addr) (r c : Nat) (R : List Row) (hr : R.length = r) (hbig : r ≤ 1000) (hbig2 : ∀ x ∈ R, x.2.2.length ≤ maxLen) (J Jx : List ByteArray → World → Prop)
    (hY : ∀ pre x W, J pre W → pre.length < (flat R).length → YieldAt Fence.wide (n - 1) Try.prog l #[.string x] W fun e W' =>
      (e = .returned (.bool true) ∧ J (pre ++ [x]) W' ∧ KeepR Bn a R W W') ∨ (e = .returned (.bool false) ∧ Jx (pre ++ [x]) W'))
    (W : World) (hBn : W.cell? ⟨Bn, 0, none⟩ = some (.slice a r c)) (hRS : RS W a R) (h0 : J [] W) :
    CallsIn Fence.wide n Try.prog 38 #[.func (.yield l) #[] #[], .pointer (some ⟨Bn, 0, none⟩)] W fun r W' => (∃ v, r = .returned v) ∧
      ((∃ ys, ys = flat R ∧ J ys W') ∨ (∃ pre, pre <+: flat R ∧ Jx pre W')) := by
  refine callsIn_of_wp Try.func38 rfl trivial ?_ rfl
  simp only [Try.ntmps38, List.size_toArray, List.length_cons, List.length_nil, Nat.reduceAdd, Nat.reduceSub, Array.replicate_succ, Array.replicate_zero, List.push_toArray, List.append_toArray, List.nil_append, List.cons_append]
  have HY := Lib.hid hY
  have HBIG := Lib.hid hbig2
  clear hY hbig2
  gi_wp2
  gi_loopw [9] (fun p wr => ∃ k : Nat, p = .int .i64 (k : Int) ∧ k ≤ r ∧ J (flat (R.take k)) wr ∧ wr.cell? ⟨Bn, 0, none⟩ = some (.slice a r c) ∧ RS wr a R) (fun p _ => r - (intOf p).toNat)
  case atStart => exact ⟨0, rfl, by omega, h0, hBn, hRS⟩
  case round =>
    clear h0 hBn hRS
    obtain ⟨k, rfl, hk, hJ, hc, hR⟩ := hrel
    by_cases hlt : k < r
    · have hkR : k < R.length := by omega
      obtain ⟨b, off, rfl, hcell, hN⟩ := hR k hkR
      obtain ⟨ao, hao⟩ : ∃ L, R[k].1 = L := ⟨_, rfl⟩
      obtain ⟨cc, hcc⟩ : ∃ L, R[k].2.1 = L := ⟨_, rfl⟩
      obtain ⟨L, hL⟩ : ∃ L, R[k].2.2 = L := ⟨_, rfl⟩
      have hbL : L.length ≤ maxLen := by rw [← hL]; exact HBIG.out _ (List.getElem_mem hkR)
      have hbL2 := hbL
      unfold maxLen at hbL2
      rw [hL, hao, hcc] at hcell
      have HL := Lib.hid hL
      have HAO := Lib.hid hao
      clear hao hcc hL
      gi_wp2
      gi_loopw [15] (fun p wr => ∃ j : Nat, p = .int .i64 (j : Int) ∧ j ≤ L.length ∧ J (flat (R.take k) ++ L.take j) wr ∧ wr.cell? ⟨Bn, 0, none⟩ = some (.slice (some ⟨b, off, none⟩) r c) ∧ RS wr (some ⟨b, off, none⟩) R) (fun p _ => L.length - (intOf p).toNat)
      case atStart => exact ⟨0, rfl, by omega, by simpa using hJ, hc, hR⟩
      case round =>
        clear hJ hc hR hcell hN
        obtain ⟨j, rfl, hj, hJ, hc, hR⟩ := hrel
        by_cases hlt2 : j < L.length
        · have hN := hR.row hkR
          have hjR : j < R[k].2.2.length := by rw [HL.out]; exact hlt2
          obtain ⟨b2, o2, e2, hs⟩ := hN j hjR
          rw [HAO.out] at e2
          have hlen : (flat (R.take k) ++ L.take j).length < (flat R).length := by rw [← HL.out]; exact flat_lt R k j hkR hjR
          have hnx := flat_next R k j hkR hjR
          have hpr := flat_pre R k (j + 1) hkR
          obtain ⟨x, hx⟩ : ∃ x, R[k].2.2[j] = x := ⟨_, rfl⟩
          rw [hx] at hs hnx
          rw [HL.out] at hnx hpr
          have HNX := Lib.hid hnx
          have HPR := Lib.hid hpr
          obtain ⟨fn, tmps, assign, body, hy, hYR⟩ := HY.out _ x _ hJ hlen
          subst e2
          clear hN hnx hpr hx hjR hlen
          gi_wp2
          refine hYR.mono ?_
          rintro e W3 (⟨rfl, hJ3, hk3⟩ | ⟨rfl, hJx3⟩)
          · have hc3 := hk3.1 _ hc
            have hR3 := hk3.2 hR
            rw [← HNX.out] at hJ3
            gi_wp2
            go_roundw
            case rel => exact ⟨j + 1, rfl, by omega, hJ3, hc3, hR3⟩
            case measure => simp [intOf]; omega
          · rw [← HNX.out] at hJx3
            gi_wp2
            refine bodyPost_ret (results_none rfl _ _ _) rfl ?_
            exact ⟨⟨_, rfl⟩, .inr ⟨_, HPR.out, hJx3⟩⟩
        · obtain rfl : j = L.length := by omega
          rw [List.take_length] at hJ
          have hJ2 : J (flat (R.take (k + 1))) wr := by rw [flat_succ R k hkR, HL.out]; exact hJ
          gi_wp2
          go_roundw
          case rel => exact ⟨k + 1, rfl, by omega, hJ2, hc, hR⟩
          case measure => simp [intOf]; omega
    · obtain rfl : k = r := by omega
      have hall : R.take k = R := List.take_of_length_le (by omega)
      rw [hall] at hJ
      gi_wp2
      go_end0
      exact ⟨⟨_, rfl⟩, .inl ⟨flat R, rfl, hJ⟩⟩
theorem hnd_stops (n : Nat) (hn : 1 ≤ n) (Bn : Nat) (a : Option Addr) (r c : Nat) (R : List Row) (hr : R.length = r) (hbig : r ≤ 1000) (hbig2 : ∀ x ∈ R, x.2.2.length ≤ maxLen) (w : World) (hBn : Bn < w.heap.size) (hc : w.cell? ⟨Bn, 0, none⟩ = some (.slice a r c)) (hR : RS w a R) :
    SeqStopsK Fence.wide n Try.prog 38 #[.pointer (some ⟨Bn, 0, none⟩)] (fun x : ByteArray => #[Value.string x]) (KeepR Bn a R) (fun ys => ys = flat R) (fun pre => pre <+: flat R) (flat R).length w := fun l J Jx W hW _ _ hY h0 =>
  hnd1_in n hn l Bn a r c R hr hbig hbig2 J Jx hY W ((hW.cell (p := ⟨Bn, 0, none⟩) hBn).trans hc) (hR.below hW (Nat.le_refl _)) h0
theorem keepR_b {w : World} {Bn : Nat} {a : Option Addr} {R : List Row} (W : World) (l : Nat) (o o' : Obj) (hl : w.heap.size ≤ l) (h : W.heap[l]? = some o) (hoc : o.isCells = false) (_ : o.isWalk = false) : KeepR Bn a R W (W.putObj l o') :=
  .of_cells fun p v hv => _root_.Go.cell_kept hv (grownBy_putObj' W l o') (fun r e => by cases e; exact ⟨_, h, hoc⟩)
theorem cell_new0 (W : World) (v : Value) (t : TypeId) : (W.alloc (.cells #[v] t)).cell? ⟨W.heap.size, 0, none⟩ = some v ∧ (W.alloc (.cells #[v] t)).frozen? ⟨W.heap.size, 0, none⟩ = false := by
  have h := heap_alloc_new W (.cells #[v] t)
  exact ⟨by rw [Lib.cell_of_heap h]; rfl, Lib.frozen_of_heap h 0⟩
theorem cell_alloc0 {W : World} {a : Addr} {v : Value} (o : Obj) (h : W.cell? a = some v) : (W.alloc o).cell? a = some v := _root_.Go.cell_kept h (World.grownBy_alloc W o none) (fun r e => by cases e)
theorem frozen_alloc0 {W : World} {a : Addr} {v : Value} (o : Obj) (h : W.cell? a = some v) (hf : W.frozen? a = false) : (W.alloc o).frozen? a = false := (_root_.Go.frozen_kept h (World.grownBy_alloc W o none) (fun r e => by cases e)).trans hf
/-- what formed answers -/
def fmE (l : List ByteArray) : Int := if l.all validB = true then 0 else 3
/-- what nonzero answers -/
def nzE (l : List ByteArray) : Int := if l.all (fun x => !x.toList.isEmpty) = true then 0 else 11
set_option maxRecDepth 100000 in
set_option maxHeartbeats 4000000 in
theorem formed_any (a : Option Addr) (r c : Nat) (R : List Row) (w : World) (hR : RS w a R) (hr : R.length = r) (hbig : r ≤ 1000) (hbig2 : ∀ x ∈ R, x.2.2.length ≤ maxLen) :
    Calls Try.prog 19 #[.slice a r c] w fun e w' => e = .returned (.int .i64 (fmE (flat R))) ∧ Below w.heap.size w w' := by
  refine (callsIn_wide (n := 10)).1 ?_
  refine callsIn_of_wp_marks Try.func19 rfl trivial ?_ rfl
  simp only [Try.ntmps19, List.size_toArray, List.length_cons, List.length_nil, Nat.reduceAdd, Nat.reduceSub, Array.replicate_succ, Array.replicate_zero, List.push_toArray, List.append_toArray, List.nil_append, List.cons_append]
  gi_wp2
  refine ⟨trivial, ?_⟩
  refine (callsIn_wide.2 (handles_any a r c _)).mono ?_
  rintro e w' ⟨rfl, rfl⟩
  have c0 := cell_new0 w (.int .i64 0) 35
  have c1 := cell_new0 (w.alloc (.cells #[.int .i64 0] 35)) (.slice a r c) 58
  simp only [World.size_alloc] at c1
  have hb := ((Below.refl _ w).alloc (Nat.le_refl _) (.cells #[.int .i64 0] 35)).alloc (by simp) (.cells #[.slice a r c] 58)
  have hR2 := hR.below hb (Nat.le_refl _)
  have d0 := cell_alloc0 (.cells #[.slice a r c] 58) c0.1
  have d1 := frozen_alloc0 (.cells #[.slice a r c] 58) c0.1 c0.2
  gi_wp2
  refine wpIn_rangeFunc_ownF rfl (by omega) (gf := 38) (lb := #[.pointer (some ⟨w.heap.size + 1, 0, none⟩)]) rfl trivial (enters_of Try.func38 (by kernel_rfl) rfl)
    (hnd_stops (10 - 1) (by omega) (w.heap.size + 1) a r c R hr hbig hbig2 _ (by simp) c1.1 hR2) (fun h k => h.trans k) ?hKb (Below.refl _ _) (fun _ => rfl)
    (fun pre W => ((∀ x ∈ pre, validB x = true) ∧ W.cell? ⟨w.heap.size, 0, none⟩ = some (.int .i64 0) ∧ W.frozen? ⟨w.heap.size, 0, none⟩ = false) ∧ Below w.heap.size w W)
    (fun c pre W => (c = .ret ∧ (∃ x ∈ pre, validB x = false) ∧ W.cell? ⟨w.heap.size, 0, none⟩ = some (.int .i64 3)) ∧ Below w.heap.size w W)
    (OwnFrom.and (Own.from (fun s A B row hs hg hr => ⟨hs.1, _root_.Go.cell_kept hs.2.1 hg hr, (_root_.Go.frozen_kept hs.2.1 hg hr).trans hs.2.2⟩) _) (ownFrom_below (Nat.le_refl _) hb.size))
    (fun c => OwnFrom.and (Own.from (fun s A B row hs hg hr => ⟨hs.1, hs.2.1, _root_.Go.cell_kept hs.2.2 hg hr⟩) _) (ownFrom_below (Nat.le_refl _) hb.size))
    ⟨⟨by simp, d0, d1⟩, hb⟩
    (fun x => { tmps := #[.slice a r c, undef, .pointer (some ⟨w.heap.size, 0, none⟩), .string x, .slice a r c, .func (.func 38) #[] #[.pointer (some ⟨w.heap.size + 1, 0, none⟩)], .string x, undef, undef, undef], defers := [] }) ?assign ?body ?done ?stop
  case hKb => exact fun W l o o' h1 h2 h3 h4 => keepR_b (w := w) W l o o' (by have := hb.size; omega) h2 h3 h4
  case assign =>
    intro l x W K hK
    gi_wp2
    exact hK
  case body =>
    rintro l pre x W ⟨⟨hp, hc, hf⟩, hB⟩ _
    cases hv : validB x
    · gi_wp2
      refine ⟨trivial, ?_⟩
      refine (CallsIn.inRound l (callsIn_wide.2 (Valid_any x W))).mono ?_
      rw [hv]
      rintro e W2 ⟨rfl, rfl⟩
      gi_wp2
      exact ⟨KeepsOthers.setCell _ _ _, ⟨rfl, ⟨x, by simp, hv⟩, World.cell?_setCell_same' _ _ _ (by rw [hc]; rfl)⟩, hB.setCell (p := ⟨w.heap.size, 0, none⟩) (Nat.le_refl _) _⟩
    · gi_wp2
      refine ⟨trivial, ?_⟩
      refine (CallsIn.inRound l (callsIn_wide.2 (Valid_any x W))).mono ?_
      rw [hv]
      rintro e W2 ⟨rfl, rfl⟩
      gi_wp2
      exact ⟨KeepsOthers.refl _, ⟨fun _ h => h, fun h => h⟩, ⟨fun y hy => (List.mem_append.1 hy).elim (hp y) (fun e => by simp at e; rw [e]; exact hv), hc, hf⟩, hB⟩
  case done =>
    rintro D ys W hD rfl ⟨⟨hne, hcr, hfr⟩, hB⟩ hK
    have hE : fmE (flat R) = 0 := if_pos (List.all_eq_true.2 hne)
    gi_wp2
    have hK' := (KeepsOthers.setCell W ⟨w.heap.size, 0, none⟩ (.int .i64 0)).same D _ hK rfl
    refine ⟨by simp, .inl ⟨_, _, rfl, run_takeDeferred hK', ?_⟩⟩
    have hc5 := _root_.Go.cell_kept (World.cell?_setCell_same' W ⟨w.heap.size, 0, none⟩ (.int .i64 0) (by rw [hcr]; rfl)) (grownBy_putObj' _ D (.deferred none)) (fun r e => by cases e; exact ⟨_, hK', rfl⟩)
    refine ⟨.int .i64 0, ?_, by rw [hE], ?_⟩
    · simp [results, Try.f19, go_sem, hc5]
    · exact (hB.setCell (p := ⟨w.heap.size, 0, none⟩) (Nat.le_refl _) _).trans (belowK_b (w := w) (Nat.le_refl _) _ D _ _ (by have := hb.size; omega) hK' rfl rfl)
  case stop =>
    rintro D c pre W hD hpre ⟨⟨rfl, ⟨x, hx, hv⟩, hcr⟩, hB⟩ hK
    have hE : fmE (flat R) = 3 := if_neg (fun h => by rw [List.all_eq_true.1 h x (hpre.subset hx)] at hv; cases hv)
    gi_wp2
    refine ⟨by simp, .inl ⟨_, _, rfl, run_takeDeferred hK, ?_⟩⟩
    have hc5 := _root_.Go.cell_kept hcr (grownBy_putObj' _ D (.deferred none)) (fun r e => by cases e; exact ⟨_, hK, rfl⟩)
    refine ⟨.int .i64 3, ?_, by rw [hE], ?_⟩
    · simp [results, Try.f19, go_sem, hc5]
    · exact hB.trans (belowK_b (w := w) (Nat.le_refl _) W D _ _ (by have := hb.size; omega) hK rfl rfl)
set_option maxRecDepth 100000 in
set_option maxHeartbeats 4000000 in
theorem nonzero_any (a : Option Addr) (r c : Nat) (R : List Row) (w : World) (hR : RS w a R) (hr : R.length = r) (hbig : r ≤ 1000) (hbig2 : ∀ x ∈ R, x.2.2.length ≤ maxLen) :
    Calls Try.prog 20 #[.slice a r c] w fun e w' => e = .returned (.int .i64 (nzE (flat R))) ∧ Below w.heap.size w w' := by
  refine (callsIn_wide (n := 10)).1 ?_
  refine callsIn_of_wp_marks Try.func20 rfl trivial ?_ rfl
  simp only [Try.ntmps20, List.size_toArray, List.length_cons, List.length_nil, Nat.reduceAdd, Nat.reduceSub, Array.replicate_succ, Array.replicate_zero, List.push_toArray, List.append_toArray, List.nil_append, List.cons_append]
  gi_wp2
  refine ⟨trivial, ?_⟩
  refine (callsIn_wide.2 (handles_any a r c _)).mono ?_
  rintro e w' ⟨rfl, rfl⟩
  have c0 := cell_new0 w (.int .i64 0) 35
  have c1 := cell_new0 (w.alloc (.cells #[.int .i64 0] 35)) (.slice a r c) 58
  simp only [World.size_alloc] at c1
  have hb := ((Below.refl _ w).alloc (Nat.le_refl _) (.cells #[.int .i64 0] 35)).alloc (by simp) (.cells #[.slice a r c] 58)
  have hR2 := hR.below hb (Nat.le_refl _)
  have d0 := cell_alloc0 (.cells #[.slice a r c] 58) c0.1
  have d1 := frozen_alloc0 (.cells #[.slice a r c] 58) c0.1 c0.2
  gi_wp2
  refine wpIn_rangeFunc_ownF rfl (by omega) (gf := 38) (lb := #[.pointer (some ⟨w.heap.size + 1, 0, none⟩)]) rfl trivial (enters_of Try.func38 (by kernel_rfl) rfl)
    (hnd_stops (10 - 1) (by omega) (w.heap.size + 1) a r c R hr hbig hbig2 _ (by simp) c1.1 hR2) (fun h k => h.trans k) ?hKb (Below.refl _ _) (fun _ => rfl)
    (fun pre W => ((∀ x ∈ pre, (!x.toList.isEmpty) = true) ∧ W.cell? ⟨w.heap.size, 0, none⟩ = some (.int .i64 0) ∧ W.frozen? ⟨w.heap.size, 0, none⟩ = false) ∧ Below w.heap.size w W)
    (fun c pre W => (c = .ret ∧ (∃ x ∈ pre, (!x.toList.isEmpty) = false) ∧ W.cell? ⟨w.heap.size, 0, none⟩ = some (.int .i64 11)) ∧ Below w.heap.size w W)
    (OwnFrom.and (Own.from (fun s A B row hs hg hr => ⟨hs.1, _root_.Go.cell_kept hs.2.1 hg hr, (_root_.Go.frozen_kept hs.2.1 hg hr).trans hs.2.2⟩) _) (ownFrom_below (Nat.le_refl _) hb.size))
    (fun c => OwnFrom.and (Own.from (fun s A B row hs hg hr => ⟨hs.1, hs.2.1, _root_.Go.cell_kept hs.2.2 hg hr⟩) _) (ownFrom_below (Nat.le_refl _) hb.size))
    ⟨⟨by simp, d0, d1⟩, hb⟩
    (fun x => { tmps := #[.slice a r c, undef, .pointer (some ⟨w.heap.size, 0, none⟩), .string x, .slice a r c, .func (.func 38) #[] #[.pointer (some ⟨w.heap.size + 1, 0, none⟩)], .string x, undef, undef], defers := [] }) ?assign ?body ?done ?stop
  case hKb => exact fun W l o o' h1 h2 h3 h4 => keepR_b (w := w) W l o o' (by have := hb.size; omega) h2 h3 h4
  case assign =>
    intro l x W K hK
    gi_wp2
    exact hK
  case body =>
    rintro l pre x W ⟨⟨hp, hc, hf⟩, hB⟩ _
    by_cases h0 : x.size = 0
    · obtain rfl : x = ⟨#[]⟩ := by cases x with | mk d => simp [ByteArray.size] at h0; simp [h0]
      gi_wp2
      exact ⟨KeepsOthers.setCell _ _ _, ⟨rfl, ⟨⟨#[]⟩, by simp, by decide +kernel⟩, World.cell?_setCell_same' _ _ _ (by rw [hc]; rfl)⟩, hB.setCell (p := ⟨w.heap.size, 0, none⟩) (Nat.le_refl _) _⟩
    · obtain ⟨n1, n2⟩ := tl_ne h0
      gi_wp2
      exact ⟨KeepsOthers.refl _, ⟨fun _ h => h, fun h => h⟩, ⟨fun y hy => (List.mem_append.1 hy).elim (hp y) (fun e => by simp at e; rw [e, n2]; rfl), hc, hf⟩, hB⟩
  case done =>
    rintro D ys W hD rfl ⟨⟨hne, hcr, hfr⟩, hB⟩ hK
    have hE : nzE (flat R) = 0 := if_pos (List.all_eq_true.2 hne)
    gi_wp2
    have hK' := (KeepsOthers.setCell W ⟨w.heap.size, 0, none⟩ (.int .i64 0)).same D _ hK rfl
    refine ⟨by simp, .inl ⟨_, _, rfl, run_takeDeferred hK', ?_⟩⟩
    have hc5 := _root_.Go.cell_kept (World.cell?_setCell_same' W ⟨w.heap.size, 0, none⟩ (.int .i64 0) (by rw [hcr]; rfl)) (grownBy_putObj' _ D (.deferred none)) (fun r e => by cases e; exact ⟨_, hK', rfl⟩)
    refine ⟨.int .i64 0, ?_, by rw [hE], ?_⟩
    · simp [results, Try.f20, go_sem, hc5]
    · exact (hB.setCell (p := ⟨w.heap.size, 0, none⟩) (Nat.le_refl _) _).trans (belowK_b (w := w) (Nat.le_refl _) _ D _ _ (by have := hb.size; omega) hK' rfl rfl)
  case stop =>
    rintro D c pre W hD hpre ⟨⟨rfl, ⟨x, hx, hv⟩, hcr⟩, hB⟩ hK
    have hE : nzE (flat R) = 11 := if_neg (fun h => by rw [List.all_eq_true.1 h x (hpre.subset hx)] at hv; cases hv)
    gi_wp2
    refine ⟨by simp, .inl ⟨_, _, rfl, run_takeDeferred hK, ?_⟩⟩
    have hc5 := _root_.Go.cell_kept hcr (grownBy_putObj' _ D (.deferred none)) (fun r e => by cases e; exact ⟨_, hK, rfl⟩)
    refine ⟨.int .i64 11, ?_, by rw [hE], ?_⟩
    · simp [results, Try.f20, go_sem, hc5]
    · exact hB.trans (belowK_b (w := w) (Nat.le_refl _) W D _ _ (by have := hb.size; omega) hK rfl rfl)
end Go.Proofs.Ytcjbbneiobnmkaa
