/- SHA-256: the words of a block (hash.schedule). -/
import Derived.Test.YtdiiggmcdpiahaaShaK
import Derived.Test.YtdiiggmcdpiahaaBits
import Derived.Deep.RegionHeld3
import Derived.Deep.RegionWith
import Derived.BigQuiet
import Derived.Handy
import Derived.StillTailTactics
import Derived.WalkSmall
namespace Go.Proofs.Ytdiiggmcdpiahaa
open Go.RowKit Num
set_option maxRecDepth 20000

theorem info_u32 : (Try.prog.info? 72).map (fun i => (i.zero, i.size, i.bytes)) = some (some (.int .u32 0), 1, 4) := by kernel_rfl
theorem at_list {P : Program} {ops : Array Oper} {l : List Oper} {a : Act} {w : World} {Q : Exit → Act → World → Prop} (h : wpList P ops Q l a w) : wpList P ops Q l a w := h
/-- the bytes from place off of block b on are given by m -/
def ByF (w : World) (b off n : Nat) (m : Nat → Int) : Prop := ∀ j, j < n → w.cell? ⟨b, off + j, none⟩ = some (.int .u8 (m j))
/-- all are bytes -/
def IsBy (n : Nat) (m : Nat → Int) : Prop := ∀ j, j < n → 0 ≤ m j ∧ m j ≤ 255
theorem ByF.lt {w : World} {b off n : Nat} {m : Nat → Int} (h : ByF w b off n m) (hn : 0 < n) : b < w.heap.size := by
  have := h 0 hn
  unfold World.cell? at this
  rcases Nat.lt_or_ge b w.heap.size with h' | h'
  · exact h'
  · simp [Array.getElem?_eq_none h'] at this
theorem ByF.below {w w' : World} {B b off n : Nat} {m : Nat → Int} (h : ByF w b off n m) (hb : Below B w w') (hB : b < B) : ByF w' b off n m := by
  intro j hj
  have := h j hj
  unfold World.cell? at this ⊢
  rw [show w'.heap[(⟨b, off + j, none⟩ : Addr).block]? = w.heap[(⟨b, off + j, none⟩ : Addr).block]? from hb.block b hB]
  exact this
theorem Arr.drewN {w : World} {b : Nat} {t : TypeId} {k : IntKind} {n : Nat} {f : Nat → Int} (h : Arr w b t k n f) (q : Nat) : Arr (w.drewN q) b t k n f := h
/-- word i of a block of bytes -/
def wd (m : Nat → Int) (i : Nat) : Int := m (4 * i) * 16777216 + m (4 * i + 1) * 65536 + m (4 * i + 2) * 256 + m (4 * i + 3)
/-- the first j words laid down -/
def wfill (m : Nat → Int) (j : Nat) : Nat → Int := fun i => if i < j then wd m i else 0
theorem wfill_succ (m : Nat → Int) (j : Nat) : upd (wfill m j) j (wd m j) = wfill m (j + 1) := by
  funext i
  by_cases e : i = j
  · subst e; rw [upd_same]; simp [wfill]
  · rw [upd_other _ _ e]
    unfold wfill
    by_cases h : i < j
    · rw [if_pos h, if_pos (by omega)]
    · rw [if_neg h, if_neg (by omega)]
theorem wd_or (x y z v : Int) (hx : 0 ≤ x ∧ x ≤ 255) (hy : 0 ≤ y ∧ y ≤ 255) (hz : 0 ≤ z ∧ z ≤ 255) (hv : 0 ≤ v ∧ v ≤ 255) :
    bits .or .u32 (bits .or .u32 (bits .or .u32 (IntKind.u32.wrap (IntKind.u32.wrap x * 16777216)) (IntKind.u32.wrap (IntKind.u32.wrap y * 65536))) (IntKind.u32.wrap (IntKind.u32.wrap z * 256))) (IntKind.u32.wrap v) = x * 16777216 + y * 65536 + z * 256 + v := by
  rw [wraps_u32 x (by omega) (by omega), wraps_u32 y (by omega) (by omega), wraps_u32 z (by omega) (by omega), wraps_u32 v (by omega) (by omega),
    wraps_u32 (x * 16777216) (by omega) (by omega), wraps_u32 (y * 65536) (by omega) (by omega), wraps_u32 (z * 256) (by omega) (by omega), or_u32 24 (x * 16777216) (y * 65536) (by omega) (by omega) (by omega) (by omega) (by omega) (by omega),
    or_u32 16 _ (z * 256) (by omega) (by omega) (by omega) (by omega) (by omega) (by omega),
    or_u32 8 _ v (by omega) (by omega) (by omega) (by omega) (by omega) (by omega)]
/-- the two mixtures of a word -/
def sg0 (x : Int) : Int := bits .xor .u32 (bits .xor .u32 (rr x 128 33554432) (rr x 262144 16384)) (x / 8)
def sg1 (x : Int) : Int := bits .xor .u32 (bits .xor .u32 (rr x 131072 32768) (rr x 524288 8192)) (x / 1024)
/-- the next word -/
def nx (a x b y : Int) : Int := IntKind.u32.wrap (IntKind.u32.wrap (IntKind.u32.wrap (a + sg0 x) + b) + sg1 y)
/-- the words behind j steps -/
def swk (m : Nat → Int) : Nat → Nat → Int
  | 0 => wfill m 16
  | j + 1 => upd (swk m j) (j + 16) (nx (swk m j j) (swk m j (j + 1)) (swk m j (j + 9)) (swk m j (j + 14)))

set_option maxHeartbeats 1000000 in
theorem schedule_any (b off c : Nat) (m : Nat → Int) (w : World) (hc : 64 ≤ c) (hc2 : c ≤ 1000000) (hb0 : ByF w b off 64 m) (hm : IsBy 64 m) :
    Calls Try.prog 90 #[.slice (some ⟨b, off, none⟩) 64 c] w fun e w' => e = .returned (.agg (icells .u32 64 (swk m 48))) ∧ Below w.heap.size w w' := by
  obtain ⟨i, hi, hz, hs⟩ := zero_parts info_w64
  obtain ⟨i1, hj, hy0, hy1, hy2⟩ := info_parts info_u32
  have hlt := hb0.lt (by omega)
  have HM := Lib.hid hm; clear hm
  go_enter Try.func90, Try.ntmps90
  go_wp2_with (first
    | (with_reducible refine wpList_alloc_arr w rfl 115 rfl i _ .u32 64 (fun _ => 0) hi hz rfl ?_; intro w0 ha0 hbA hs0)
    | (with_reducible refine wpList_alloc_arr w0 rfl 115 rfl i _ .u32 64 (fun _ => 0) hi hz rfl ?_; intro w1 ha hb hsz))
  have h01 : ByF w1 b off 64 m := (hb0.below hbA hlt).below hb (by omega)
  have hz1 := ha0.below hb (by omega)
  have hbW := hbA.trans (hb.mono hbA.size)
  clear hi hz hs hb0 ha0 hy0 hy2
  go_loopw [9] (fun v wr => ∃ k : Nat, k ≤ 16 ∧ v = .int .i64 k ∧ Arr wr w0.heap.size 115 .u32 64 (wfill m k) ∧ Below w0.heap.size w1 wr)
    (fun v _ => 16 - (intOf v).toNat)
  case atStart => exact ⟨0, by omega, rfl, ha.congr (by intro j hj; simp [wfill]), Below.refl _ _⟩
  case round =>
    clear ha
    obtain ⟨k, hk, rfl, ha, hbl⟩ := hrel
    by_cases hlt : k < 16
    · have hB := h01.below hbl (by omega)
      go_wp2
      have c0 := hB (4 * k) (by omega)
      have c1 : wr.cell? ⟨b, off + 4 * k + 1, none⟩ = some (.int .u8 (m (4 * k + 1))) := hB (4 * k + 1) (by omega)
      have c2 : wr.cell? ⟨b, off + 4 * k + 2, none⟩ = some (.int .u8 (m (4 * k + 2))) := hB (4 * k + 2) (by omega)
      have c3 : wr.cell? ⟨b, off + 4 * k + 3, none⟩ = some (.int .u8 (m (4 * k + 3))) := hB (4 * k + 3) (by omega)
      have g64 : (k : Int) < 64 := by omega
      have l4 : 4 * k + 4 - 4 * k = 4 := by omega
      have hcell := ha.cell (show k < 64 by omega)
      have hfr := ha.free k
      refine wp_region_still_tail 24 (by kernel_rfl) (by kernel_rfl) ?_
      simp only [List.take_succ_cons, List.take_zero, List.drop_succ_cons, List.drop_zero]
      iterate 24 still_step
      refine wpStill_nil ?_
      change wpList _ _ _ _ _ wr.drew
      refine wpList_store_int rfl rfl _ _ _ rfl _ _ _ _ _ rfl rfl hcell hfr i1 hj hy1 ?_
      refine wpList_nil ?_
      refine ‹∀ (a : Act) (w : World), Code.wp Try.prog _ _ a w → _› _ _ ?_
      have hwd : _ = wd m k := wd_or _ _ _ _ (HM.out (4 * k) (by omega)) (HM.out (4 * k + 1) (by omega)) (HM.out (4 * k + 2) (by omega)) (HM.out (4 * k + 3) (by omega))
      rw [hwd]
      clear hwd c0 c1 c2 c3 l4 g64 hcell hfr
      have ha3 := ha.drew.set k (wd m k)
      have hb3 := hbl.drew.setCell (p := ⟨w0.heap.size, k, none⟩) (Nat.le_refl _) (.int .u32 (wd m k))
      generalize wr.drew.setCell _ _ = w3 at ha3 hb3 ⊢
      rw [wfill_succ] at ha3
      go_wp2_with fail
      go_roundw
      case rel => exact ⟨k + 1, by omega, by go_num, ha3, hb3⟩
      case measure => simp [intOf]; omega
    · obtain rfl : k = 16 := by omega
      clear hlt
      go_wp2_with fail
      have hz2 := hz1.below hbl (by omega)
      have hbX := hbW.trans (hbl.mono (by omega))
      clear hz1 h01 hbl hb HM hc hc2 hk hbA
      go_loopw [6] (fun v wv => ∃ k : Nat, k ≤ 48 ∧ v = .int .i64 ((k : Int) + 16) ∧ Arr wv w0.heap.size 115 .u32 64 (swk m k) ∧ Below w0.heap.size wr wv)
        (fun v _ => 64 - (intOf v).toNat)
      case atStart => exact ⟨0, by omega, rfl, ha, Below.refl _ _⟩
      case round =>
        clear ha
        obtain ⟨k, hk, rfl, ha, hbl⟩ := hrel
        by_cases hlt : k < 48
        · have c1 := ha.cell (show k + 1 < 64 by omega)
          have c14 := ha.cell (show k + 14 < 64 by omega)
          have g1 : IntKind.i64.wrap ((k : Int) + 16 - 15) = (k : Int) + 1 := by rw [IntWalk.i64_in _ (by omega)]; omega
          have g14 : IntKind.i64.wrap ((k : Int) + 16 - 2) = (k : Int) + 14 := by rw [IntWalk.i64_in _ (by omega)]; omega
          have t1 : ((k : Int) + 1).toNat = k + 1 := by omega
          have t14 : ((k : Int) + 14).toNat = k + 14 := by omega
          have n1 : 0 ≤ (k : Int) + 1 := by omega
          have n14 : 0 ≤ (k : Int) + 14 := by omega
          have l1 : (k : Int) + 1 < 64 := by omega
          have l14 : (k : Int) + 14 < 64 := by omega
          go_wp2_with fail
          go_quiet (fail)
          clear g1 g14 t1 t14 n1 n14 l1 l14 c1 c14
          have ha4 := ha.drewN nq
          have hb4 := below_drewN hbl nq
          generalize wr.drewN nq = w4 at ha4 hb4 ⊢
          clear ha hbl
          have c0 := ha4.cell (show k < 64 by omega)
          have c9 := ha4.cell (show k + 9 < 64 by omega)
          have c16 := ha4.cell (show k + 16 < 64 by omega)
          have hfr := ha4.free (k + 16)
          have g0 : IntKind.i64.wrap ((k : Int) + 16 - 16) = (k : Int) := by rw [IntWalk.i64_in _ (by omega)]; omega
          have g0' : IntKind.i64.wrap (k : Int) = (k : Int) := by rw [IntWalk.i64_in _ (by omega)]
          have g9 : IntKind.i64.wrap ((k : Int) + 16 - 7) = (k : Int) + 9 := by rw [IntWalk.i64_in _ (by omega)]; omega
          have t9 : ((k : Int) + 9).toNat = k + 9 := by omega
          have t16 : ((k : Int) + 16).toNat = k + 16 := by omega
          have n0 : 0 ≤ (k : Int) := by omega
          have n9 : 0 ≤ (k : Int) + 9 := by omega
          have n16 : 0 ≤ (k : Int) + 16 := by omega
          have l0 : (k : Int) < 64 := by omega
          have l9 : (k : Int) + 9 < 64 := by omega
          have l16 : (k : Int) + 16 < 64 := by omega
          go_wp2_with fail
          refine wp_region_still_tail 29 (by kernel_rfl) (by kernel_rfl) ?_
          simp only [List.take_succ_cons, List.take_zero, List.drop_succ_cons, List.drop_zero]
          iterate 6 still_step
          still_call (turn_7 _ _)
          still_step
          still_call (turn_18 _ _)
          iterate 11 still_step
          still_call (turn_17 _ _)
          still_step
          still_call (turn_19 _ _)
          iterate 6 still_step
          refine wpStill_nil ?_
          change wpList _ _ _ _ _ w4.drew
          refine wpList_store_int rfl rfl _ _ _ rfl _ _ _ _ _ rfl rfl c16 hfr i1 hj hy1 ?_
          refine wpList_nil ?_
          refine ‹∀ (a : Act) (w : World), Code.wp Try.prog _ _ a w → _› _ _ ?_
          clear c0 c9 c16 hfr g0 g0' g9 t9 t16 n0 n9 n16 l0 l9 l16
          change Code.wp _ _ _ _ (w4.drew.setCell ⟨w0.heap.size, k + 16, none⟩ (.int .u32 (nx (swk m k k) (swk m k (k + 1)) (swk m k (k + 9)) (swk m k (k + 14)))))
          have ha5 : Arr _ _ _ _ _ (swk m (k + 1)) := ha4.drew.set (k + 16) (nx (swk m k k) (swk m k (k + 1)) (swk m k (k + 9)) (swk m k (k + 14)))
          have hb5 := hb4.drew.setCell (p := ⟨w0.heap.size, k + 16, none⟩) (Nat.le_refl _) (.int .u32 (nx (swk m k k) (swk m k (k + 1)) (swk m k (k + 9)) (swk m k (k + 14))))
          generalize w4.drew.setCell _ _ = w5 at ha5 hb5 ⊢
          clear ha4 hb4
          go_wp2_with fail
          refine ⟨?_, ?measure⟩
          iterate 44 apply Exists.intro
          refine ⟨?rel, rfl⟩
          case rel => exact ⟨k + 1, by omega, by go_num, ha5, hb5⟩
          case measure => simp [intOf]; omega
        · obtain rfl : k = 48 := by omega
          clear hlt hk
          have hz3 := hz2.below hbl (by omega)
          have hbY := hbX.trans (hbl.mono (by omega))
          clear hz2 hbX hbl hbW
          go_wp2_with (first
            | (with_reducible refine at_list ?_; refine wpList_load_arr rfl 115 _ rfl w0.heap.size rfl ha 64 72 (by kernel_rfl) (by kernel_rfl) ?_)
            | (with_reducible refine at_list ?_; refine wpList_store_arr rfl 115 _ _ rfl w.heap.size rfl rfl hz3 (by kernel_rfl) ?_; intro w7 ha7 hs7 _ hb7))
          exact bodyPost_arr rfl w.heap.size rfl ha7 64 72 (by kernel_rfl) (by kernel_rfl) rfl ⟨rfl, hbY.trans (hb7 _ (Nat.le_refl _))⟩
end Go.Proofs.Ytdiiggmcdpiahaa
