/- SHA-256 as the reference has it: the words of a block (dominoref05.schedule). -/
import Derived.Test.YtdiiggmcdpiahaaShaS
namespace Go.Proofs.Ytdiiggmcdpiahaa
open Go.RowKit Num
open Go.Lib (byteCells byteCells_length byteCells_append)
set_option maxRecDepth 20000

/-- the bytes of a string as a function of the place -/
def sby (s : ByteArray) : Nat → Int := fun j => ((s.data.toList.getD j 0).toNat : Int)
theorem sby_at (s : ByteArray) (j : Nat) (h : j < s.size) : ((s[j]'h).toNat : Int) = sby s j := by
  unfold sby
  rw [List.getD_eq_getElem?_getD, List.getElem?_eq_getElem (by rw [← Go.Lib.size_eq]; exact h)]
  rfl
theorem sby_by (s : ByteArray) (n : Nat) : IsBy n (sby s) := by
  intro j _
  have := (s.data.toList.getD j 0).toNat_lt
  unfold sby; omega
/-- the first q bytes of word i -/
def hn (m : Nat → Int) (i : Nat) : Nat → Int
  | 0 => 0
  | q + 1 => hn m i q * 256 + m (4 * i + q)
theorem hn_four (m : Nat → Int) (i : Nat) : hn m i 4 = wd m i := by
  simp [hn, wd]; omega
theorem hn_bd (m : Nat → Int) (i q : Nat) (hq : q ≤ 4) (h : ∀ j, j < 4 → 0 ≤ m (4 * i + j) ∧ m (4 * i + j) ≤ 255) : 0 ≤ hn m i q ∧ hn m i q < 256 ^ q := by
  induction q with
  | zero => simp [hn]
  | succ q ih =>
    have ih := ih (by omega)
    have := h q (by omega)
    simp only [hn, Int.pow_succ]
    omega
/-- the words behind i whole ones and q bytes -/
def wfq (m : Nat → Int) (i q : Nat) : Nat → Int := fun j => if j < i then wd m j else if j = i then hn m i q else 0
theorem wfq_zero (m : Nat → Int) (i : Nat) : wfq m i 0 = wfill m i := by
  funext j; simp [wfq, wfill, hn]
theorem wfq_four (m : Nat → Int) (i : Nat) : wfq m i 4 = wfill m (i + 1) := by
  funext j
  unfold wfq wfill
  rw [hn_four]
  by_cases h : j < i
  · rw [if_pos h, if_pos (by omega)]
  · rw [if_neg h]
    by_cases e : j = i
    · subst e; simp
    · rw [if_neg e, if_neg (by omega)]
theorem wfq_succ (m : Nat → Int) (i q : Nat) : upd (wfq m i q) i (hn m i (q + 1)) = wfq m i (q + 1) := by
  funext j
  by_cases e : j = i
  · subst e; rw [upd_same]; simp [wfq]
  · rw [upd_other _ _ e]; simp [wfq, e]

set_option maxHeartbeats 2000000 in
theorem refschedule_any (s : ByteArray) (w : World) (hs : s.size = 64) :
    Calls Try.prog 62 #[.string s] w fun e w' => e = .returned (.slice (some ⟨w.heap.size, 0, none⟩) 64 64) ∧ Arr w' w.heap.size 72 .u32 64 (swk (sby s) 48) ∧ Below w.heap.size w w' ∧ w.heap.size < w'.heap.size := by
  obtain ⟨i1, hj, hy0, hy1, hy2⟩ := info_parts info_u32
  have hm := sby_by s 64
  have hat := sby_at s
  obtain ⟨m, hm0⟩ : ∃ m, sby s = m := ⟨_, rfl⟩
  rw [hm0] at hm hat ⊢
  have HM := Lib.hid hm
  have HAT := Lib.hid hat
  have HS := Lib.hid hs
  have hs1 : 64 ≤ s.size := by omega
  have hs2 : s.size ≤ 64 := by omega
  clear hm hat hs hm0
  go_enter Try.func62, Try.ntmps62
  go_wp2_with (at_make; refine wpList_make_arr w rfl _ _ _ rfl 72 i1 .u32 4 Try.underlying73 hj hy0 hy1 hy2 _ _ _ _ 64 rfl rfl ?_ ?_ ?_ ?_ ?_ <;> first | (intro w1 ha hb hsz) | omega | (unfold maxLen; omega))
  clear hy0 hy2
  go_loopw [4] (fun v wr => ∃ k : Nat, k ≤ 16 ∧ v = .int .i64 k ∧ Arr wr w.heap.size 72 .u32 64 (wfill m k) ∧ Below w.heap.size w wr)
    (fun v _ => 16 - (intOf v).toNat)
  case atStart => exact ⟨0, by omega, rfl, ha.congr (by intro j hj; simp [wfill]), hb⟩
  case round =>
    have hsz := ha.lt
    clear ha hb
    obtain ⟨k, hk, rfl, ha, hb⟩ := hrel
    obtain ⟨wo, rfl⟩ : ∃ wo : World, wo = wr := ⟨_, rfl⟩
    by_cases hlt : k < 16
    · have hd : decide ((k : Int) < 16) = true := by rw [decide_eq_true_eq]; omega
      go_wp2_with fail
      clear hd
      go_loopw [5] (fun v wr => ∃ q : Nat, q ≤ 4 ∧ v = .int .i64 q ∧ Arr wr w.heap.size 72 .u32 64 (wfq m k q) ∧ Below w.heap.size w wr)
        (fun v _ => 4 - (intOf v).toNat)
      case atStart => exact ⟨0, by omega, rfl, by rw [wfq_zero]; exact ha, hb⟩
      case round =>
        clear ha hb
        obtain ⟨q, hq, rfl, ha, hb⟩ := hrel
        by_cases hlt2 : q < 4
        · have c0 := ha.cell (show k < 64 by omega)
          have hfr := ha.free k
          have hnb := hn_bd m k q hq (fun j hj => HM.out (4 * k + j) (by omega))
          have e0 : wfq m k q k = hn m k q := by simp [wfq]
          rw [e0] at c0
          clear e0
          have g64 : (k : Int) < 64 := by omega
          have g1 : IntKind.i64.wrap (4 * (k : Int)) = 4 * (k : Int) := by rw [IntWalk.i64_in _ (by omega)]
          have g2 : IntKind.i64.wrap (4 * (k : Int) + (q : Int)) = 4 * (k : Int) + (q : Int) := by rw [IntWalk.i64_in _ (by omega)]
          have t2 : (4 * (k : Int) + (q : Int)).toNat = 4 * k + q := by omega
          have n2 : 0 ≤ 4 * (k : Int) + (q : Int) := by omega
          have l2 : 4 * k + q < s.size := by omega
          have v2 : (Instr.index 9 (.string s) (.int .i64 (4 * (k : Int) + (q : Int)))).run Try.prog wr.drew = .ok (.int .u8 (m (4 * k + q))) wr.drew := by
            rw [run_index_string _ _ _ _ _ Try.underlying9, dif_pos ⟨by omega, by omega⟩]
            simp only [t2, HAT.out]
          go_wp2_with fail
          refine wp_region_still_tail 16 (by kernel_rfl) (by kernel_rfl) ?_
          simp only [List.take_succ_cons, List.take_zero, List.drop_succ_cons, List.drop_zero]
          iterate 16 still_step
          refine wpStill_nil ?_
          change wpList _ _ _ _ _ wr.drew
          refine wpList_store_int rfl rfl _ _ _ rfl _ _ _ _ _ rfl rfl c0 hfr i1 hj hy1 ?_
          refine wpList_nil ?_
          refine ‹∀ (a : Act) (w : World), Code.wp Try.prog _ _ a w → _› _ _ ?_
          clear g64 g1 g2 t2 n2 l2 v2 c0 hfr
          have hw : IntKind.u32.wrap (IntKind.u32.wrap (hn m k q * 256) + IntKind.u32.wrap (m (4 * k + q))) = hn m k (q + 1) := by
            have hmb := HM.out (4 * k + q) (by omega)
            have : (256 : Int) ^ q ≤ 256 ^ 3 := by
              have := Nat.pow_le_pow_right (n := 256) (by omega) (show q ≤ 3 by omega)
              exact_mod_cast this
            rw [wraps_u32 (hn m k q * 256) (by omega) (by omega), wraps_u32 (m (4 * k + q)) (by omega) (by omega), wraps_u32 _ (by omega) (by omega)]
            rfl
          rw [hw]
          clear hw hnb
          have ha3 := ha.drew.set k (hn m k (q + 1))
          have hb3 := hb.drew.setCell (p := ⟨w.heap.size, k, none⟩) (Nat.le_refl _) (.int .u32 (hn m k (q + 1)))
          generalize wr.drew.setCell _ _ = w3 at ha3 hb3 ⊢
          rw [wfq_succ] at ha3
          go_wp2_with fail
          go_roundw
          case rel => exact ⟨q + 1, by omega, by go_num, ha3, hb3⟩
          case measure => simp [intOf]; omega
        · obtain rfl : q = 4 := by omega
          rw [wfq_four] at ha
          clear hlt2 hq
          go_wp2_with fail
          go_roundw
          case rel => exact ⟨k + 1, by omega, by go_num, ha, hb⟩
          case measure => simp [intOf]; omega
    · obtain rfl : k = 16 := by omega
      clear hlt hk HM HAT HS hs1 hs2
      have ha : Arr wo w.heap.size 72 .u32 64 (swk m 0) := ha
      go_wp2_with fail
      go_loopw [6] (fun v wr => ∃ k : Nat, k ≤ 48 ∧ v = .int .i64 ((k : Int) + 16) ∧ Arr wr w.heap.size 72 .u32 64 (swk m k) ∧ Below w.heap.size w wr)
        (fun v _ => 64 - (intOf v).toNat)
      case atStart => exact ⟨0, by omega, rfl, ha, hb⟩
      case round =>
        clear ha hb
        obtain ⟨k, hk, rfl, ha, hb⟩ := hrel
        by_cases hlt : k < 48
        · have c1 := ha.cell (show k + 1 < 64 by omega)
          have c14 := ha.cell (show k + 14 < 64 by omega)
          have g1 : IntKind.i64.wrap ((k : Int) + 16 - 15) = (k : Int) + 1 := by rw [IntWalk.i64_in _ (by omega)]; omega
          have g14 : IntKind.i64.wrap ((k : Int) + 16 - 2) = (k : Int) + 14 := by rw [IntWalk.i64_in _ (by omega)]; omega
          have t1 : ((k : Int) + 1).toNat = k + 1 := by omega
          have t14 : ((k : Int) + 14).toNat = k + 14 := by omega
          have n1 : 0 ≤ (k : Int) + 1 := by omega
          have n14 : 0 ≤ (k : Int) + 14 := by omega
          have l1 : (k : Int) + 1 < 64 := by omega
          have l14 : (k : Int) + 14 < 64 := by omega
          go_wp2_with fail
          go_quiet (fail)
          clear g1 g14 t1 t14 n1 n14 l1 l14 c1 c14
          have ha4 := ha.drewN nq
          have hb4 := below_drewN hb nq
          generalize wr.drewN nq = w4 at ha4 hb4 ⊢
          clear ha hb
          go_wp2_with fail
          refine (right_7 _ _).mono ?_
          rintro e w' ⟨rfl, q0, rfl⟩
          have ha5 := ha4.drewN q0
          have hb5 := below_drewN hb4 q0
          generalize w4.drewN q0 = w5 at ha5 hb5 ⊢
          clear ha4 hb4
          go_wp2_with fail
          refine (right_18 _ _).mono ?_
          rintro e w' ⟨rfl, q1, rfl⟩
          have ha6 := ha5.drewN q1
          have hb6 := below_drewN hb5 q1
          generalize w5.drewN q1 = w6 at ha6 hb6 ⊢
          clear ha5 hb5
          go_wp2_with fail
          refine (right_17 _ _).mono ?_
          rintro e w' ⟨rfl, q2, rfl⟩
          have ha7 := ha6.drewN q2
          have hb7 := below_drewN hb6 q2
          generalize w6.drewN q2 = w7 at ha7 hb7 ⊢
          clear ha6 hb6
          go_wp2_with fail
          refine (right_19 _ _).mono ?_
          rintro e w' ⟨rfl, q3, rfl⟩
          have ha8 := ha7.drewN q3
          have hb8 := below_drewN hb7 q3
          generalize w7.drewN q3 = w8 at ha8 hb8 ⊢
          clear ha7 hb7
          have c0 := ha8.cell (show k < 64 by omega)
          have c9 := ha8.cell (show k + 9 < 64 by omega)
          have c16 := ha8.cell (show k + 16 < 64 by omega)
          have hfr := ha8.free (k + 16)
          have g0 : IntKind.i64.wrap ((k : Int) + 16 - 16) = (k : Int) := by rw [IntWalk.i64_in _ (by omega)]; omega
          have g0' : IntKind.i64.wrap (k : Int) = (k : Int) := by rw [IntWalk.i64_in _ (by omega)]
          have g9 : IntKind.i64.wrap ((k : Int) + 16 - 7) = (k : Int) + 9 := by rw [IntWalk.i64_in _ (by omega)]; omega
          have t9 : ((k : Int) + 9).toNat = k + 9 := by omega
          have t16 : ((k : Int) + 16).toNat = k + 16 := by omega
          have n0 : 0 ≤ (k : Int) := by omega
          have n9 : 0 ≤ (k : Int) + 9 := by omega
          have n16 : 0 ≤ (k : Int) + 16 := by omega
          have l0 : (k : Int) < 64 := by omega
          have l9 : (k : Int) + 9 < 64 := by omega
          have l16 : (k : Int) + 16 < 64 := by omega
          go_wp2_with fail
          refine wp_region_still_tail 18 (by kernel_rfl) (by kernel_rfl) ?_
          simp only [List.take_succ_cons, List.take_zero, List.drop_succ_cons, List.drop_zero]
          iterate 18 still_step
          refine wpStill_nil ?_
          change wpList _ _ _ _ _ w8.drew
          refine wpList_store_int rfl rfl _ _ _ rfl _ _ _ _ _ rfl rfl c16 hfr i1 hj hy1 ?_
          refine wpList_nil ?_
          refine ‹∀ (a : Act) (w : World), Code.wp Try.prog _ _ a w → _› _ _ ?_
          clear c0 c9 c16 hfr g0 g0' g9 t9 t16 n0 n9 n16 l0 l9 l16
          change Code.wp _ _ _ _ (w8.drew.setCell ⟨w.heap.size, k + 16, none⟩ (.int .u32 (nx (swk m k k) (swk m k (k + 1)) (swk m k (k + 9)) (swk m k (k + 14)))))
          have ha9 : Arr _ _ _ _ _ (swk m (k + 1)) := ha8.drew.set (k + 16) (nx (swk m k k) (swk m k (k + 1)) (swk m k (k + 9)) (swk m k (k + 14)))
          have hb9 := hb8.drew.setCell (p := ⟨w.heap.size, k + 16, none⟩) (Nat.le_refl _) (.int .u32 (nx (swk m k k) (swk m k (k + 1)) (swk m k (k + 9)) (swk m k (k + 14))))
          generalize w8.drew.setCell _ _ = w9 at ha9 hb9 ⊢
          go_wp2_with fail
          refine ⟨?_, ?measure⟩
          iterate 53 apply Exists.intro
          refine ⟨?rel, rfl⟩
          case rel => exact ⟨k + 1, by omega, by go_num, ha9, hb9⟩
          case measure => simp [intOf]; omega
        · obtain rfl : k = 48 := by omega
          have hz := ha.lt
          go_wp2_with fail
          go_ret
          exact ⟨rfl, ha, hb, hz⟩
end Go.Proofs.Ytdiiggmcdpiahaa
