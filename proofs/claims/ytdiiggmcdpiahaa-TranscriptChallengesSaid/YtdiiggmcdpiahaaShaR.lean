/- SHA-256: the state behind a block (hash.state's after). -/
import Derived.Test.YtdiiggmcdpiahaaShaW
import Derived.Laws.CopyRow
namespace Go.Proofs.Ytdiiggmcdpiahaa
open Go.RowKit Num
set_option maxRecDepth 20000

/-- a row of integers, n places from o on moved to d -/
def moved (f : Nat → Int) (d o n : Nat) : Nat → Int := fun i => if d ≤ i ∧ i < d + n then f (o + (i - d)) else f i
/-- copy within a row of integers -/
theorem wpList_copy_within {P : Program} {w : World} {ops : Array Oper} {rest : List Oper} {o : Oper} {a : Act} {Q : Exit → Act → World → Prop} (hgd : o.guard = none) (x y : Operand) (t t' e : TypeId)
    (ho : o.op = .call { callee := .builtin .copy, args := #[x, y], argTypes := #[t, t'] }) (b d s m c c' n : Nat) (k : IntKind) (f : Nat → Int) (T : TypeId)
    (hx : a.eval x = .slice (some ⟨b, d, none⟩) m c) (hy : a.eval y = .slice (some ⟨b, s, none⟩) m c') (ha : Arr w b T k n f) (hd : d + m ≤ n) (hs : s + m ≤ n)
    (hu : P.underlying t = some (.slice e)) (he : (P.info? e).map (·.size) = some 1)
    (hK : ∀ w', Arr w' b T k n (moved f d s m) → (∀ B, B ≤ b → Below B w w') → w'.heap.size = w.heap.size → (∀ j, j ≠ b → w'.heap[j]? = w.heap[j]?) → wpList P ops Q rest (a.put o.dst (goInt m)) w') : wpList P ops Q (o :: rest) a w := by
  refine wpList_plain hgd fun K hK' => ?_
  have hlen : ((List.range m).map fun j => Value.int k (f (s + j))).length = m := by simp
  have hr := run_copy_row (P := P) w t t' o.type e b d m c ⟨b, s, none⟩ m c' (icells k n f) T ((List.range m).map fun j => Value.int k (f (s + j))) hu he ha (by simp)
    (by
      intro j v hv
      have hj : j < m := by
        rcases Nat.lt_or_ge j m with h | h
        · exact h
        · simp [h] at hv
      simp [hj] at hv
      subst hv
      have : (⟨b, s, none⟩ : Addr).add j = ⟨b, s + j, none⟩ := by unfold Addr.add; split <;> simp_all
      rw [this, ha.cell (by omega)])
    (by rw [hlen, size_icells]; omega)
    (by intro v hv; simp at hv; obtain ⟨_, _, rfl⟩ := hv; rfl)
  have hc : ((icells k n f).toList.take d ++ ((List.range m).map fun j => Value.int k (f (s + j))) ++ (icells k n f).toList.drop (d + ((List.range m).map fun j => Value.int k (f (s + j))).length)).toArray = icells k n (moved f d s m) := by
    rw [hlen]
    apply Array.ext
    · simp [icells]; omega
    · intro i h1 h2
      simp [icells] at h2 ⊢
      rw [List.getElem_append]
      split
      · rename_i h3
        simp at h3
        rw [show moved f d s m i = f i from if_neg (by omega)]
        simp
      · rename_i h3
        simp at h3
        have h3' : d ≤ i := by omega
        rw [List.getElem_append]
        split
        · rename_i h4
          simp at h4
          rw [show moved f d s m i = f (s + (i - d)) from if_pos ⟨h3', by omega⟩]
          simp [Nat.min_eq_left (show d ≤ n by omega)]
        · rename_i h4
          simp at h4
          rw [show moved f d s m i = f i from if_neg (by omega)]
          simp
          congr 1
          omega
  rw [hc, hlen] at hr
  unfold Oper.wp execOp
  simp only [ho, resolve, invoke, builtin, Sem.run_bind, Sem.run_pure, Result.andThen_ok, List.map_toArray, List.map_cons, List.map_nil, hx, hy, hr]
  exact hK' _ _ (hK _ (setRow_heap _ _ _ _ _ _ ha) (fun B hB => setRow_below hB) (by simp) (fun j hj => setRow_other _ _ _ _ hj))
theorem Arr.keep {w w' : World} {b : Nat} {t : TypeId} {k : IntKind} {n : Nat} {f : Nat → Int} (h : Arr w b t k n f) (e : w'.heap[b]? = w.heap[b]?) : Arr w' b t k n f := by unfold Arr; rw [e]; exact h
/-- a parameter that is a whole array, laid into a block -/
theorem wpList_box_arr {P : Program} (w : World) {ops : Array Oper} {rest : List Oper} {o : Oper} {a : Act} {Q : Exit → Act → World → Prop} (hg : o.guard = none) (t : TypeId) (x : Operand) (hop : o.op = Op.box t x)
    (k : IntKind) (n : Nat) (f : Nat → Int) (hx : a.eval x = .agg (icells k n f))
    (hK : ∀ w', Arr w' w.heap.size t k n f → Below w.heap.size w w' → w.heap.size < w'.heap.size → wpList P ops Q rest (a.put o.dst (.pointer (some ⟨w.heap.size, 0, none⟩))) w') :
    wpList P ops Q (o :: rest) a w := by
  refine wpList_plain hg fun K hK' => ?_
  have hrun : (Instr.box t (.agg (icells k n f))).run P w = .ok (.pointer (some ⟨w.heap.size, 0, none⟩)) (w.alloc (.cells (icells k n f) t)) := by
    simp [Instr.box, newVar, newRow, Value.cells]
  unfold Oper.wp
  simp [execOp, hop, hx, hrun, Result.andThen]
  exact hK' _ _ (hK _ (Arr.new _ _ _ _ _) ((Below.refl _ _).alloc (Nat.le_refl _) _) (by simp))
/-- the mixtures of a round -/
def bs1 (x : Int) : Int := bits .xor .u32 (bits .xor .u32 (rr x 64 67108864) (rr x 2048 2097152)) (rr x 33554432 128)
def bs0 (x : Int) : Int := bits .xor .u32 (bits .xor .u32 (rr x 4 1073741824) (rr x 8192 524288)) (rr x 4194304 1024)

/-- all bits turned -/
def nt (x : Int) : Int := bits .xor .u32 (if IntKind.u32.signed = true then -1 else IntKind.u32.max) x
def t1 (f : Nat → Int) (k w : Int) : Int :=
  IntKind.u32.wrap (IntKind.u32.wrap (IntKind.u32.wrap (IntKind.u32.wrap (f 7 + bs1 (f 4)) + bits .xor .u32 (bits .and .u32 (f 4) (f 5)) (bits .and .u32 (nt (f 4)) (f 6))) + k) + w)
def t2 (f : Nat → Int) : Int := IntKind.u32.wrap (bs0 (f 0) + bits .xor .u32 (bits .xor .u32 (bits .and .u32 (f 0) (f 1)) (bits .and .u32 (f 0) (f 2))) (bits .and .u32 (f 1) (f 2)))
/-- one round -/
def rnd (f : Nat → Int) (k w : Int) : Nat → Int := upd (upd (moved f 1 0 7) 4 (IntKind.u32.wrap (f 3 + t1 f k w))) 0 (IntKind.u32.wrap (t1 f k w + t2 f))
def rnds (m s : Nat → Int) : Nat → Nat → Int
  | 0 => s
  | k + 1 => rnd (rnds m s k) (kf k) (swk m 48 k)
/-- the state behind a block -/
def aft (m s : Nat → Int) : Nat → Int := fun i => IntKind.u32.wrap (rnds m s 64 i + s i)
/-- .. as far as the last loop has come -/
def aftk (m s : Nat → Int) (k : Nat) : Nat → Int := fun i => if i < k then aft m s i else rnds m s 64 i
theorem aftk_succ (m s : Nat → Int) (k : Nat) : upd (aftk m s k) k (aft m s k) = aftk m s (k + 1) := by
  funext i
  by_cases e : i = k
  · subst e; rw [upd_same]; simp [aftk]
  · rw [upd_other _ _ e]
    unfold aftk
    by_cases h : i < k
    · rw [if_pos h, if_pos (by omega)]
    · rw [if_neg h, if_neg (by omega)]
theorem rnd_cell (m s : Nat → Int) (k : Nat) (T U : Int) (hT : t1 (rnds m s k) (kf k) (swk m 48 k) = T) (hU : t2 (rnds m s k) = U) :
    upd (upd (moved (rnds m s k) 1 0 7) 4 ((moved (rnds m s k) 1 0 7 4 + T) % 4294967296)) 0 ((T + U) % 4294967296) = rnds m s (k + 1) := by
  subst hT; subst hU
  show _ = rnd _ _ _
  unfold rnd
  rw [IntKind.wrap_u32, IntKind.wrap_u32]
  rfl

set_option maxHeartbeats 8000000 in
theorem after_any (b off c : Nat) (m s : Nat → Int) (w : World) (hc : 64 ≤ c) (hc2 : c ≤ 1000000) (hb0 : ByF w b off 64 m) (hm : IsBy 64 m) :
    Calls Try.prog 79 #[.agg (icells .u32 8 s), .slice (some ⟨b, off, none⟩) 64 c] w fun e w' => e = .returned (.agg (icells .u32 8 (aft m s))) ∧ Below w.heap.size w w' := by
  obtain ⟨i, hi, hz, hs⟩ := zero_parts info_w64
  obtain ⟨i8, hi8, hz8, hs8⟩ := zero_parts info_w8
  obtain ⟨i1, hj, hy0, hy1, hy2⟩ := info_parts info_u32
  have hlt := hb0.lt (by omega)
  have HM := Lib.hid hm; clear hm
  go_enter Try.func79, Try.ntmps79
  go_wp2_with (first
    | (with_reducible refine at_list ?_; refine wpList_box_arr w rfl 107 _ rfl .u32 8 s rfl ?_; intro w1 hA0 hB1 hS1)
    | (with_reducible refine at_list ?_; refine wpList_alloc_arr w1 rfl 107 rfl i8 _ .u32 8 (fun _ => 0) hi8 hz8 rfl ?_; intro w2 hR hB2 hS2)
    | (go_at_call 89; refine (constants_any w2).mono ?_; rintro e w3 ⟨rfl, hB3⟩)
    | (go_at_call 90; refine (schedule_any b off c m w3 hc hc2 (((hb0.below hB1 hlt).below hB2 (by omega)).below hB3 (by omega)) HM.out).mono ?_; rintro e w4 ⟨rfl, hB4⟩)
    | (with_reducible refine at_list ?_; refine wpList_alloc_arr w4 rfl 115 rfl i _ .u32 64 (fun _ => 0) hi hz rfl ?_; intro w5 hK5 hB5 hS5)
    | (with_reducible refine at_list ?_; refine wpList_alloc_arr w5 rfl 115 rfl i _ .u32 64 (fun _ => 0) hi hz rfl ?_; intro w6 hW6 hB6 hS6)
    | (with_reducible refine at_list ?_; refine wpList_store_arr (w := w6) rfl 115 _ _ rfl w4.heap.size rfl rfl (hK5.below hB6 hS5) (by kernel_rfl) ?_; intro w7 hK7 hS7 hO7 hB7; replace hS7 := And.intro (Nat.le_of_eq hS7) (Nat.le_of_eq hS7.symm); have hW7 := hW6.keep (hO7 _ (by omega)))
    | (with_reducible refine at_list ?_; refine wpList_store_arr (w := w7) rfl 115 _ _ rfl w5.heap.size rfl rfl hW7 (by kernel_rfl) ?_; intro w8 hW8 hS8 hO8 hB8; replace hS8 := And.intro (Nat.le_of_eq hS8) (Nat.le_of_eq hS8.symm))
    | (with_reducible refine at_list ?_; refine wpList_load_arr (w := w8) rfl 107 _ rfl w.heap.size rfl (show Arr w8 w.heap.size 107 .u32 8 s from
        (((((((hA0.below hB2 (by omega)).below hB3 (by have := hB2.size; omega)).below hB4 (by have := hB2.size; have := hB3.size; omega)).below hB5 (by have := hB2.size; have := hB3.size; have := hB4.size; omega)).below hB6 (by have := hB2.size; have := hB3.size; have := hB4.size; omega)).below (hB7 w1.heap.size (by have := hB2.size; have := hB3.size; have := hB4.size; omega)) hS1).below (hB8 w1.heap.size (by have := hB2.size; have := hB3.size; have := hB4.size; omega)) hS1)) 8 72 (by kernel_rfl) (by kernel_rfl) ?_)
    | (with_reducible refine at_list ?_; refine wpList_alloc_arr w8 rfl 107 rfl i8 _ .u32 8 (fun _ => 0) hi8 hz8 rfl ?_; intro w9 hX9 hB9 hS9)
    | (with_reducible refine at_list ?_; refine wpList_store_arr (w := w9) rfl 107 _ _ rfl w8.heap.size rfl rfl hX9 (by kernel_rfl) ?_; intro w10 hX10 hS10 hO10 hB10; replace hS10 := And.intro (Nat.le_of_eq hS10) (Nat.le_of_eq hS10.symm)))
  have z2 := hB2.size
  have z3 := hB3.size
  have z4 := hB4.size
  have hA := (((((((((hA0.below hB2 (by omega)).below hB3 (by omega)).below hB4 (by omega)).below hB5 (by omega)).below hB6 (by omega)).below (hB7 w1.heap.size (by omega)) hS1).below (hB8 w1.heap.size (by omega)) hS1)).below hB9 (by omega)).below (hB10 w8.heap.size (by omega)) (by omega)
  have hRR := (((((((hR.below hB3 (by omega)).below hB4 (by omega)).below hB5 (by omega)).below hB6 (by omega)).below (hB7 w2.heap.size (by omega)) hS2).below (hB8 w2.heap.size (by omega)) hS2).below hB9 (by omega)).below (hB10 w8.heap.size (by omega)) (by omega)
  have hKK := (((hK7.below (hB8 w5.heap.size (by omega)) (by omega)).below hB9 (by omega)).below (hB10 w8.heap.size (by omega)) (by omega))
  have hWW := (hW8.below hB9 (by omega)).below (hB10 w8.heap.size (by omega)) (by omega)
  have hBB := ((((((((hB1.trans (hB2.mono (by omega))).trans (hB3.mono (by omega))).trans (hB4.mono (by omega))).trans (hB5.mono (by omega))).trans (hB6.mono (by omega))).trans (hB7 w.heap.size (by omega))).trans (hB8 w.heap.size (by omega))).trans (hB9.mono (by omega))).trans (hB10 w.heap.size (by omega))
  have o1 : w.heap.size < w1.heap.size := hS1
  have o2 : w1.heap.size < w4.heap.size := by omega
  have o3 : w4.heap.size < w5.heap.size := by omega
  have o4 : w5.heap.size < w8.heap.size := by omega
  clear hA0 hB2 hB3 hB4 hB5 hB6 hB7 hB8 hB9 hB10 hR hK5 hK7 hW7 hW8 hW6 hO7 hO8 hO10 hX9 hB1 hS2 hS5 hS6 hS7 hS8 hS9 hS10 hi hz hs hi8 hz8 hs8 hb0 HM
  generalize hnA : w.heap.size = nA at hA hBB o1 hlt ⊢
  have HNA := Lib.hid hnA
  clear hnA
  generalize w1.heap.size = nR at hRR o1 o2 z2 ⊢
  generalize w4.heap.size = nK at hKK o2 o3 z4 ⊢
  generalize w5.heap.size = nW at hWW o3 o4 ⊢
  generalize w8.heap.size = nX at hX10 o4 ⊢
  clear z2 z3 z4
  go_loopw [22] (fun v wr => ∃ k : Nat, k ≤ 64 ∧ v = .int .i64 k ∧ Arr wr nX 107 .u32 8 (rnds m s k) ∧ Below nX w10 wr)
    (fun v _ => 64 - (intOf v).toNat)
  case atStart => exact ⟨0, by omega, rfl, hX10, Below.refl _ _⟩
  case round =>
    clear hX10
    obtain ⟨k, hk, rfl, hX, hb⟩ := hrel
    by_cases hlt : k < 64
    · have c0 := hX.cell (show 0 < 8 by omega)
      have c1 := hX.cell (show 1 < 8 by omega)
      have c2 := hX.cell (show 2 < 8 by omega)
      have c4 := hX.cell (show 4 < 8 by omega)
      have c5 := hX.cell (show 5 < 8 by omega)
      have c6 := hX.cell (show 6 < 8 by omega)
      have c7 := hX.cell (show 7 < 8 by omega)
      have ck := (hKK.below hb (by omega)).cell hlt
      have cw := (hWW.below hb (by omega)).cell hlt
      go_wp2_with fail
      go_quiet (fail)
      have hX2 := hX.drewN nq
      have hb2 := below_drewN hb nq
      clear c0 c1 c2 c4 c5 c6 c7 ck cw
      generalize wr.drewN nq = w11 at hX2 hb2 ⊢
      have c7 := hX2.cell (show 7 < 8 by omega)
      have ck := (hKK.below hb2 (by omega)).cell hlt
      have cw := (hWW.below hb2 (by omega)).cell hlt
      go_wp2_with fail
      refine wp_region_still_tail 28 (by kernel_rfl) (by kernel_rfl) ?_
      simp only [List.take_succ_cons, List.take_zero, List.drop_succ_cons, List.drop_zero]
      iterate 3 still_step
      still_call (turn_6 _ _)
      still_step
      still_call (turn_11 _ _)
      iterate 2 still_step
      still_call (turn_25 _ _)
      iterate 19 still_step
      refine wpStill_nil ?_
      change wpList _ _ _ _ _ w11.drew
      clear c7 ck cw
      have hX3 := hX2.drew
      have hb3 := hb2.drew
      generalize w11.drew = w12 at hX3 hb3 ⊢
      obtain ⟨T, hT⟩ : ∃ T, t1 (rnds m s k) (kf k) (swk m 48 k) = T := ⟨_, rfl⟩
      obtain ⟨U, hU⟩ : ∃ U, t2 (rnds m s k) = U := ⟨_, rfl⟩
      have HT := Lib.hid hT
      have HU := Lib.hid hU
      unfold t1 bs1 nt at hT
      unfold t2 bs0 at hU
      go_step
      go_step
      go_step
      rw [hT]
      clear hT
      refine wpList_nil ?_
      refine ‹∀ (a : Act) (w : World), Code.wp Try.prog _ _ a w → _› _ _ ?_
      go_wp2_with fail
      refine (turn_2 _ _).mono ?_
      rintro e w' ⟨rfl, rfl⟩
      go_wp2_with fail
      refine (turn_13 _ _).mono ?_
      rintro e w' ⟨rfl, rfl⟩
      go_wp2_with fail
      refine (turn_22 _ _).mono ?_
      rintro e w' ⟨rfl, rfl⟩
      go_wp2_with fail
      clear hU
      refine wp_region_still_tail 2 (by kernel_rfl) (by kernel_rfl) ?_
      simp only [List.take_succ_cons, List.take_zero, List.drop_succ_cons, List.drop_zero]
      iterate 2 still_step
      refine wpStill_nil ?_
      change wpList _ _ _ _ _ w'.drew
      have hX4 := hX3.drew
      have hb4 := hb3.drew
      generalize w'.drew = w13 at hX4 hb4 ⊢
      refine wpList_copy_within rfl _ _ _ _ 72 rfl nX 1 0 7 7 8 8 .u32 (rnds m s k) 107 rfl rfl hX4 (by omega) (by omega) (by kernel_rfl) (by kernel_rfl) ?_
      intro w14 hX5 hB14 _ _
      have hb5 := hb4.trans (hB14 nX (Nat.le_refl _))
      refine wpList_nil ?_
      refine ‹∀ (a : Act) (w : World), Code.wp Try.prog _ _ a w → _› _ _ ?_
      have c4 := hX5.cell (show 4 < 8 by omega)
      have c0 := hX5.cell (show 0 < 8 by omega)
      have f4 := hX5.free 4
      have f0 := hX5.free 0
      go_wp2_with fail
      refine ⟨⟨k + 1, by omega, by go_num, ?_, (hb5.setCell (p := ⟨nX, 4, none⟩) (Nat.le_refl _) _).setCell (p := ⟨nX, 0, none⟩) (Nat.le_refl _) _⟩, by simp [intOf]; omega⟩
      have := (hX5.set 4 ((moved (rnds m s k) 1 0 7 4 + T) % 4294967296)).set 0 ((T + U) % 4294967296)
      rw [rnd_cell m s k T U HT.out HU.out] at this
      exact this
    · obtain rfl : k = 64 := by omega
      clear hlt hk
      have hAA := hA.below hb (by omega)
      have hRR := hRR.below hb (by omega)
      have hBC := hBB.trans (hb.mono (by omega))
      clear hA hKK hWW hb hBB
      obtain ⟨wo, rfl⟩ : ∃ wo : World, wo = wr := ⟨_, rfl⟩
      go_wp2_with fail
      go_loopw [98] (fun v wv => ∃ k : Nat, k ≤ 8 ∧ v = .int .i64 k ∧ Arr wv nX 107 .u32 8 (aftk m s k) ∧ Below nX wo wv)
        (fun v _ => 8 - (intOf v).toNat)
      case atStart => exact ⟨0, by omega, rfl, hX.congr (by intro j hj; simp [aftk]), Below.refl _ _⟩
      case round =>
        clear hX
        obtain ⟨k, hk, rfl, hX, hb⟩ := hrel
        by_cases hlt : k < 8
        · have c1 := hX.cell hlt
          have cs := (hAA.below hb (by omega)).cell hlt
          have hfr := hX.free k
          go_wp2_with fail
          refine wp_region_still_tail 8 (by kernel_rfl) (by kernel_rfl) ?_
          simp only [List.take_succ_cons, List.take_zero, List.drop_succ_cons, List.drop_zero]
          iterate 8 still_step
          refine wpStill_nil ?_
          change wpList _ _ _ _ _ wr.drew
          refine wpList_store_int rfl rfl _ _ _ rfl _ _ _ _ _ rfl rfl c1 hfr i1 hj hy1 ?_
          refine wpList_nil ?_
          refine ‹∀ (a : Act) (w : World), Code.wp Try.prog _ _ a w → _› _ _ ?_
          have hX2 := hX.drew.set k (aft m s k)
          rw [aftk_succ] at hX2
          have hb2 := hb.drew.setCell (p := ⟨nX, k, none⟩) (Nat.le_refl _) (.int .u32 (aft m s k))
          rw [show IntKind.u32.wrap (aftk m s k k + s k) = aft m s k from by simp [aft, aftk]]
          generalize wr.drew.setCell _ _ = w15 at hX2 hb2 ⊢
          clear hX hb c1 cs hfr
          go_wp2_with fail
          refine ⟨?_, ?measure⟩
          iterate 13 apply Exists.intro
          refine ⟨?rel, rfl⟩
          case rel => exact ⟨k + 1, by omega, by go_num, hX2, hb2⟩
          case measure => simp [intOf]; omega
        · obtain rfl : k = 8 := by omega
          have hX := hX.congr (g := aft m s) (by intro j hj; simp [aftk, hj])
          have hRR := hRR.below hb (by omega)
          have hBC := hBC.trans (hb.mono (by omega))
          clear hb hlt hk
          go_wp2_with (first
            | (with_reducible refine at_list ?_; refine wpList_load_arr (w := wr) rfl 107 _ rfl nX rfl hX 8 72 (by kernel_rfl) (by kernel_rfl) ?_)
            | (with_reducible refine at_list ?_; refine wpList_store_arr (w := wr) rfl 107 _ _ rfl nR rfl rfl hRR (by kernel_rfl) ?_; intro w16 hR16 hS16 hO16 hB16))
          exact bodyPost_arr (f := aft m s) rfl nR rfl hR16 8 72 (by kernel_rfl) (by kernel_rfl) rfl ⟨rfl, by rw [HNA.out]; exact hBC.trans (hB16 _ (by omega))⟩
end Go.Proofs.Ytdiiggmcdpiahaa
