/- SHA-256 as the reference has it: the state behind a block (dominoref05.compress). -/
import Derived.Test.YtdiiggmcdpiahaaShaT
namespace Go.Proofs.Ytdiiggmcdpiahaa
open Go.RowKit Num
open Go.Lib (byteCells byteCells_length byteCells_append)
set_option maxRecDepth 20000

/-- n cells of integers from the head of block b on -/
def Cel (w : World) (b : Nat) (k : IntKind) (n : Nat) (f : Nat → Int) : Prop := ∀ j, j < n → w.cell? ⟨b, j, none⟩ = some (.int k (f j))
theorem Arr.cel {w : World} {b : Nat} {t : TypeId} {k : IntKind} {n : Nat} {f : Nat → Int} (h : Arr w b t k n f) : Cel w b k n f := fun _ hj => h.cell hj
def ivals (k : IntKind) (n : Nat) (f : Nat → Int) : List Value := (List.range n).map fun i => .int k (f i)
theorem ivals_get (k : IntKind) (n : Nat) (f : Nat → Int) (j : Nat) : (ivals k n f)[j]? = if j < n then some (.int k (f j)) else none := by
  unfold ivals
  by_cases h : j < n
  · simp [h]
  · simp [h]
theorem ivals_one (k : IntKind) (n : Nat) (f : Nat → Int) : ∀ v ∈ ivals k n f, v.oneCell' = true := by
  intro v hv
  simp [ivals] at hv
  obtain ⟨_, _, rfl⟩ := hv
  rfl
theorem length_ivals (k : IntKind) (n : Nat) (f : Nat → Int) : (ivals k n f).length = n := by simp [ivals]

theorem cel_news {w : World} {b : Nat} {k : IntKind} {n : Nat} {f : Nat → Int} (h : Cel w b k n f) : ∀ j u, (ivals k n f)[j]? = some u → w.cell? ((⟨b, 0, none⟩ : Addr).add j) = some u := by
  intro j u hu
  rw [ivals_get] at hu
  split at hu
  · rename_i hj
    injection hu with hu
    subst hu
    rw [show (⟨b, 0, none⟩ : Addr).add j = ⟨b, j, none⟩ from by unfold Addr.add; split <;> simp_all]
    exact h j hj
  · cases hu

theorem t1_flat (f : Nat → Int) (k w : Int) : ((f 7 + bits .xor .u32 (bits .xor .u32 (rr (f 4) 64 67108864) (rr (f 4) 2048 2097152)) (rr (f 4) 33554432 128) + bits .xor .u32 (bits .and .u32 (f 4) (f 5)) (bits .and .u32 (bits .xor .u32 (if IntKind.u32.signed = true then -1 else IntKind.u32.max) (f 4)) (f 6)) + k) % 4294967296 + w) % 4294967296 = t1 f k w := by
  unfold t1 bs1 nt
  simp only [IntKind.wrap_u32]
  generalize bits .xor .u32 (bits .xor .u32 (rr (f 4) 64 67108864) (rr (f 4) 2048 2097152)) (rr (f 4) 33554432 128) = X
  generalize bits .xor .u32 (bits .and .u32 (f 4) (f 5)) (bits .and .u32 (bits .xor .u32 (if IntKind.u32.signed = true then -1 else IntKind.u32.max) (f 4)) (f 6)) = Y
  omega
theorem lit8 (f : Nat → Int) (X Y : Int) : #[Value.int .u32 Y, .int .u32 (f 0), .int .u32 (f 1), .int .u32 (f 2), .int .u32 X, .int .u32 (f 4), .int .u32 (f 5), .int .u32 (f 6)] = icells .u32 8 (upd (upd (moved f 1 0 7) 4 X) 0 Y) := by
  apply Array.ext
  · simp [icells]
  · intro i h1 h2
    simp only [List.size_toArray, List.length_cons, List.length_nil] at h1
    simp only [icells, Array.getElem_map, Array.getElem_range]
    rcases i with _ | _ | _ | _ | _ | _ | _ | _ | i
    all_goals first | rfl | omega
set_option maxHeartbeats 8000000 in
theorem refcompress_any (s : ByteArray) (b : Nat) (f : Nat → Int) (w : World) (hs : s.size = 64) (ha : Arr w b 72 .u32 8 f) :
    Calls Try.prog 42 #[.slice (some ⟨b, 0, none⟩) 8 8, .string s] w fun e w' => ∃ g, e = .returned (.slice (some ⟨g, 0, none⟩) 8 8) ∧ Arr w' g 72 .u32 8 (aft (sby s) f) ∧ Below w.heap.size w w' := by
  obtain ⟨i1, hj, hy0, hy1, hy2⟩ := info_parts info_u32
  have hbl := ha.lt
  have HS := Lib.hid hs
  obtain ⟨m, hm⟩ : ∃ m, sby s = m := ⟨_, rfl⟩
  rw [hm]
  have HM := Lib.hid hm
  clear hs hm
  go_enter Try.func42, Try.ntmps42
  go_wp2_with (first
    | (go_at_call 62; refine (refschedule_any s _ HS.out).mono ?_; rintro e w1 ⟨rfl, hW, hB1, hS1⟩)
    | (go_at_call 63; refine (refconstants_any w1).mono ?_; rintro e w2 ⟨rfl, hK, hB2⟩)
    | (at_builtin; refine wpList_append_own _ rfl (.tmp 21) (.tmp 22) 73 rfl w2.heap.size 72 i1 (.int .u32 0) 1 4 Try.underlying73 hj hy0 hy1 hy2 rfl (by decide) (.slice (some ⟨w2.heap.size, 0, none⟩) 0 0) 0 [] rfl ⟨rfl, .inr ⟨w2.heap.size, 0, #[], rfl, Nat.le_refl _, heap_alloc_new w2 _, Nat.le_refl _, by unfold maxLen; omega, rfl, rfl⟩⟩ ⟨b, 0, none⟩ 8 8 (ivals .u32 8 f) rfl (length_ivals _ _ _) (cel_news (((ha.below hB1 hbl).below hB2 (by omega)).alloc _).cel) (ivals_one _ _ _) (by unfold maxLen; omega) (by omega) (by simp) ?_; intro v' w3 hO3 hG3 _))
  rw [HM.out] at hW
  have z1 := hB1.size
  have z2 := hB2.size
  have hB3 : Below w2.heap.size w2 w3 := ((Below.refl w2.heap.size w2).alloc (Nat.le_refl _) _).grown hG3 (by simp) (fun q e => by cases e; exact Nat.le_refl _)
  have z3 := hB3.size
  have hk1 := hK.lt
  have ha3 := ((ha.below hB1 hbl).below hB2 (by omega)).below hB3 (by omega)
  have hW3 := (hW.below hB2 (by omega)).below hB3 (by omega)
  have hK3 := hK.below hB3 hk1
  have hbA := (hB1.trans (hB2.mono z1)).trans (hB3.mono (by omega))
  clear hW hK hB1 hB2 hG3 ha hB3
  rcases hO3.2 with ⟨_, h0⟩ | ⟨g, cap, cur, rfl, hBg, _, hnc, hcm, _, _⟩
  · omega
  have hC3 : Cel w3 g .u32 8 f := by
    intro q hq
    rw [hO3.cellAt q (by omega), List.nil_append, ivals_get, if_pos hq]
  clear hO3 hBg hcm hy0 hy2
  have hz3 : w1.heap.size < w3.heap.size := by omega
  have hz4 : w.heap.size < w3.heap.size := by omega
  have hz5 : b < w3.heap.size := by omega
  clear z1 z2 z3 hk1 hS1
  simp only [Nat.zero_add] at hnc ⊢
  go_loopw [7, 8] (fun v i wr => ∃ (k g c : Nat), k ≤ 64 ∧ i = .int .i64 k ∧ v = .slice (some ⟨g, 0, none⟩) 8 c ∧ Hid (Cel wr g .u32 8 (rnds m f k)) ∧ Hid (0 < k → c = 8 ∧ w3.heap.size ≤ g ∧ Arr wr g 72 .u32 8 (rnds m f k)) ∧ Below w3.heap.size w3 wr)
    (fun _ i _ => 64 - (intOf i).toNat)
  case atStart => exact ⟨0, g, cap, by omega, rfl, rfl, hC3, fun h => absurd h (by omega), Below.refl _ _⟩
  case round =>
    clear hC3 hnc
    obtain ⟨k, g, c, hk, rfl, rfl, hC, hA, hb⟩ := hrel
    by_cases hlt : k < 64
    · have c0 := hC.out 0 (by omega)
      have c1 := hC.out 1 (by omega)
      have c2 := hC.out 2 (by omega)
      have c4 := hC.out 4 (by omega)
      have c5 := hC.out 5 (by omega)
      have c6 := hC.out 6 (by omega)
      go_wp2_with fail
      go_quiet (fail)
      clear c0 c1 c2 c4 c5 c6
      have hC2 : Hid (Cel (wr.drewN nq) g .u32 8 (rnds m f k)) := hC.out
      have hb2 := below_drewN hb nq
      clear hC hb hA
      generalize wr.drewN nq = w4 at hC2 hb2 ⊢
      go_wp2_with fail
      have c7 := hC2.out 7 (by omega)
      have ck := (hK3.below hb2 hz3).cell hlt
      have cw := (hW3.below hb2 hz4).cell hlt
      have HT2 := Lib.hid (t1_flat (rnds m f k) (kf k) (swk m 48 k))
      obtain ⟨T, hT⟩ : ∃ T, t1 (rnds m f k) (kf k) (swk m 48 k) = T := ⟨_, rfl⟩
      rw [hT] at HT2
      have HT := Lib.hid hT
      clear hT
      have kb0 : (0 : Int) ≤ (k : Int) := by omega
      have kb1 : (k : Int) < 64 := by omega
      refine wp_region_quiet_lit (by kernel_rfl) (by kernel_rfl) ?_
      iterate 4 go_big_quiet_step (fail)
      go_big_quiet_step (exact Calls.quiet_of (right_6 _ _))
      iterate 1 go_big_quiet_step (fail)
      go_big_quiet_step (exact Calls.quiet_of (right_11 _ _))
      iterate 2 go_big_quiet_step (fail)
      go_big_quiet_step (exact Calls.quiet_of (right_25 _ _))
      iterate 22 go_big_quiet_step (fail)
      refine wpQuiet_nil ?_
      intro _ hw'
      obtain ⟨nq, hw''⟩ := hw'
      subst hw''
      rw [HT2.out]
      clear HT2 c7 ck cw
      have hC3 : Hid (Cel (w4.drewN nq) g .u32 8 (rnds m f k)) := hC2.out
      have hb3 := below_drewN hb2 nq
      clear hC2 hb2
      generalize w4.drewN nq = w5 at hC3 hb3 ⊢
      obtain ⟨U, hU⟩ : ∃ U, t2 (rnds m f k) = U := ⟨_, rfl⟩
      have HU := Lib.hid hU
      unfold t2 bs0 at hU
      refine ‹∀ (a : Act) (w : World), Code.wp Try.prog _ _ a w → _› _ _ ?_
      go_wp2_with fail
      refine (right_2 _ _).mono ?_
      rintro e w' ⟨rfl, q0, rfl⟩
      have hC4 : Hid (Cel (w5.drewN q0) g .u32 8 (rnds m f k)) := hC3.out
      have hb4 := below_drewN hb3 q0
      generalize w5.drewN q0 = w6 at hC4 hb4 ⊢
      clear hC3 hb3
      go_wp2_with fail
      refine (right_13 _ _).mono ?_
      rintro e w' ⟨rfl, q1, rfl⟩
      have hC5 : Hid (Cel (w6.drewN q1) g .u32 8 (rnds m f k)) := hC4.out
      have hb5 := below_drewN hb4 q1
      generalize w6.drewN q1 = w7 at hC5 hb5 ⊢
      clear hC4 hb4
      go_wp2_with fail
      refine (right_22 _ _).mono ?_
      rintro e w' ⟨rfl, q2, rfl⟩
      have hC6 : Hid (Cel (w7.drewN q2) g .u32 8 (rnds m f k)) := hC5.out
      have hb6 := below_drewN hb5 q2
      generalize w7.drewN q2 = w8 at hC6 hb6 ⊢
      clear hC5 hb5
      have c3 := hC6.out 3 (by omega)
      go_wp2_with fail
      have hcs := lit8 (rnds m f k) ((rnds m f k 3 + T) % 4294967296) ((T + U) % 4294967296)
      have hrc : upd (upd (moved (rnds m f k) 1 0 7) 4 ((rnds m f k 3 + T) % 4294967296)) 0 ((T + U) % 4294967296) = rnds m f (k + 1) := rnd_cell m f k T U HT.out HU.out
      rw [hrc] at hcs
      have hN := Arr.made (w := w8) (t := 72) hcs
      exact ⟨⟨k + 1, w8.heap.size, 8, by omega, by go_num, rfl, hN.cel, fun _ => ⟨rfl, hb6.size, hN⟩, hb6.alloc hb6.size _⟩, by simp [intOf]; omega⟩
    · obtain rfl : k = 64 := by omega
      obtain ⟨rfl, hg, hAr⟩ := hA.out (by omega)
      clear hC hlt hk hA
      obtain ⟨wo, rfl⟩ : ∃ wo : World, wo = wr := ⟨_, rfl⟩
      have hA : Arr wo g 72 .u32 8 (aftk m f 0) := hAr.congr (by intro j hj; simp [aftk])
      clear hAr
      have hbC := hbA.trans (hb.mono (Nat.le_of_lt hz4))
      have ha4 := ha3.below hb hz5
      go_wp2_with fail
      go_loopw [17] (fun v wr => ∃ k : Nat, k ≤ 8 ∧ v = .int .i64 k ∧ Arr wr g 72 .u32 8 (aftk m f k) ∧ Below w3.heap.size wo wr)
        (fun v _ => 8 - (intOf v).toNat)
      case atStart => exact ⟨0, by omega, rfl, hA, Below.refl _ _⟩
      case round =>
        clear hA
        obtain ⟨k, hk, rfl, hX, hb'⟩ := hrel
        by_cases hlt : k < 8
        · have c1 := hX.cell hlt
          have cs := (ha4.below hb' hz5).cell hlt
          have hfr := hX.free k
          have g0 : (0 : Int) ≤ (k : Int) := by omega
          have g8 : (k : Int) < 8 := by omega
          go_wp2_with fail
          refine wp_region_still_tail 10 (by kernel_rfl) (by kernel_rfl) ?_
          simp only [List.take_succ_cons, List.take_zero, List.drop_succ_cons, List.drop_zero]
          iterate 10 still_step
          refine wpStill_nil ?_
          change wpList _ _ _ _ _ wr.drew
          refine wpList_store_int rfl rfl _ _ _ rfl _ _ _ _ _ rfl rfl c1 hfr i1 hj hy1 ?_
          refine wpList_nil ?_
          refine ‹∀ (a : Act) (w : World), Code.wp Try.prog _ _ a w → _› _ _ ?_
          have hX2 := hX.drew.set k (aft m f k)
          rw [aftk_succ] at hX2
          have hb2 := hb'.drew.setCell (p := ⟨g, k, none⟩) hg (.int .u32 (aft m f k))
          rw [show IntKind.u32.wrap (aftk m f k k + f k) = aft m f k from by simp [aft, aftk]]
          generalize wr.drew.setCell _ _ = w15 at hX2 hb2 ⊢
          clear hX hb' c1 cs hfr g0 g8
          go_wp2_with fail
          refine ⟨?_, ?measure⟩
          iterate 15 apply Exists.intro
          refine ⟨?rel, rfl⟩
          case rel => exact ⟨k + 1, by omega, by go_num, hX2, hb2⟩
          case measure => simp [intOf]; omega
        · obtain rfl : k = 8 := by omega
          have hX := hX.congr (g := aft m f) (by intro j hj; simp [aftk, hj])
          go_wp2_with fail
          go_ret
          exact ⟨g, rfl, hX, hbC.trans (hb'.mono (Nat.le_of_lt hz4))⟩
end Go.Proofs.Ytdiiggmcdpiahaa
