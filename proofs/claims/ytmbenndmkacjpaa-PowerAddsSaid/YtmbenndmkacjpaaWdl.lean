/- Contracts of the package modular: limbs. -/
import Derived.Test.YtmbenndmkacjpaaWds
import Derived.StillTailTactics
namespace Go.Proofs.Ytmbenndmkacjpaa
open Go.RowKit Num
set_option maxRecDepth 20000

namespace Num
theorem w_eq (q : Nat) : 4294967296 ^ q = 256 ^ (4 * q) := by rw [Nat.pow_mul]
theorem cut_div (a k m : Nat) (h : k ≤ m) : a / 256 ^ k * 256 ^ k / 256 ^ m = a / 256 ^ m := by
  obtain ⟨d, rfl⟩ : ∃ d, m = k + d := ⟨m - k, by omega⟩
  rw [Nat.pow_add, ← Nat.div_div_eq_div_mul, ← Nat.div_div_eq_div_mul, Nat.mul_div_cancel _ (Nat.pow_pos (by omega))]
/-- the part of a number from the k-th byte on -/
def cutb (a k : Nat) : Nat := a / 256 ^ k * 256 ^ k
theorem cutb_zero (a : Nat) : cutb a 0 = a := by simp [cutb]
theorem cutb_all (a k : Nat) (h : a < 256 ^ k) : cutb a k = 0 := by simp [cutb, Nat.div_eq_of_lt h]
theorem wd_zero (i : Nat) : wd 0 i = 0 := by simp [wd]
theorem cutb_low (a k j : Nat) (h : 4 * j + 4 ≤ k) : wd (cutb a k) j = 0 := by
  unfold wd cutb
  obtain ⟨d, rfl⟩ : ∃ d, k = 4 * (j + 1) + d := ⟨k - 4 * (j + 1), by omega⟩
  have e : 256 ^ (4 * (j + 1) + d) = 4294967296 ^ j * (4294967296 * 256 ^ d) := by
    rw [Nat.pow_add, ← w_eq, Nat.pow_succ, Nat.mul_assoc]
  rw [e, ← Nat.mul_assoc, Nat.mul_comm _ (4294967296 ^ j), Nat.mul_assoc, Nat.mul_div_cancel_left _ (Nat.pow_pos (by omega)), Nat.mul_left_comm, Nat.mul_mod_right]
  rfl
theorem cutb_high (a k j : Nat) (h : k ≤ 4 * j) : wd (cutb a k) j = wd a j := by
  unfold wd cutb
  rw [w_eq, cut_div a k _ h]
theorem cutb_at (a k q r : Nat) (hk : k = 4 * q + r) : cutb a k / 4294967296 ^ q = a / 256 ^ k * 256 ^ r := by
  unfold cutb
  conv => lhs; rw [hk]
  rw [Nat.pow_add, ← w_eq, Nat.mul_comm (4294967296 ^ q), ← Nat.mul_assoc, Nat.mul_div_cancel _ (Nat.pow_pos (by omega)), ← Nat.mul_comm (4294967296 ^ q), w_eq, ← Nat.pow_add, ← hk]
/-- one byte more -/
theorem limb_step (a k : Nat) :
    (∀ j, j ≠ k / 4 → wd (cutb a k) j = wd (cutb a (k + 1)) j) ∧ wd (cutb a k) (k / 4) = wd (cutb a (k + 1)) (k / 4) + dg a k * 2 ^ (8 * (k % 4)) ∧ wd (cutb a (k + 1)) (k / 4) % 2 ^ (8 * (k % 4) + 8) = 0 := by
  refine ⟨fun j hj => ?_, ?_⟩
  · by_cases h : j < k / 4
    · rw [cutb_low a k j (by omega), cutb_low a (k + 1) j (by omega)]
    · rw [cutb_high a k j (by omega), cutb_high a (k + 1) j (by omega)]
  · have e1 := cutb_at a k (k / 4) (k % 4) (by omega)
    have e2 := cutb_at a (k + 1) (k / 4) (k % 4 + 1) (by omega)
    have e3 : a / 256 ^ (k + 1) = a / 256 ^ k / 256 := by rw [Nat.pow_succ, ← Nat.div_div_eq_div_mul]
    unfold wd dg
    rw [e1, e2, e3]
    generalize a / 256 ^ k = X
    rcases (by omega : k % 4 = 0 ∨ k % 4 = 1 ∨ k % 4 = 2 ∨ k % 4 = 3) with h | h | h | h <;> rw [h] <;> simp <;> omega
end Num
theorem limb_or (k : Nat) (x d : Int) (hx : 0 ≤ x ∧ x < 4294967296) (h : x % 2 ^ (8 * (k % 4) + 8) = 0) (hd : 0 ≤ d ∧ d ≤ 255) :
    0 ≤ d * 2 ^ (8 * (k % 4)) ∧ d * 2 ^ (8 * (k % 4)) < 4294967296 ∧ bits .or .u32 x (d * 2 ^ (8 * (k % 4))) = x + d * 2 ^ (8 * (k % 4)) := by
  have e : 0 ≤ d * 2 ^ (8 * (k % 4)) ∧ d * 2 ^ (8 * (k % 4)) < 2 ^ (8 * (k % 4) + 8) ∧ (2 : Int) ^ (8 * (k % 4) + 8) ≤ 4294967296 := by
    rcases (by omega : k % 4 = 0 ∨ k % 4 = 1 ∨ k % 4 = 2 ∨ k % 4 = 3) with h | h | h | h <;> rw [h] <;> simp <;> omega
  exact ⟨e.1, by omega, or_u32 (8 * (k % 4) + 8) _ _ hx.1 h (by omega) e.1 e.2.1 (by omega)⟩
theorem below_four {a n : Nat} (h : a < 256 ^ n) : a < 4294967296 ^ ((n + 3) / 4) := by
  rw [w_eq]
  exact Nat.lt_of_lt_of_le h (Nat.pow_le_pow_right (by omega) (by omega))
set_option maxHeartbeats 1000000 in
theorem limbs_any (s : ByteArray) (a : Nat) (w : World) (hs : IsN s a) :
    Calls Try.prog 59 #[.string s] w fun e w' => e = .returned (.slice (some ⟨w.heap.size, 0, none⟩) ((s.size + 3) / 4) ((s.size + 3) / 4)) ∧ Arr w' w.heap.size 102 .u32 ((s.size + 3) / 4) (wd a) ∧ Below w.heap.size w w' ∧ a < 4294967296 ^ ((s.size + 3) / 4) := by
  have hz := hs.small
  have hlt0 : a < 256 ^ s.size := by rw [hs.size]; exact lt_blen a
  have HS := Lib.hid hs; clear hs
  have HLT := Lib.hid hlt0; clear hlt0
  obtain ⟨i0, hi, hz0, hz1, hz2⟩ := info_parts info_w32
  go_enter Try.func59, Try.ntmps59
  go_wp2_with (at_make; refine wpList_make_arr _ rfl _ _ _ rfl 102 i0 .u32 4 Try.underlying88 hi hz0 hz1 hz2 _ _ _ _ ((s.size + 3) / 4) rfl rfl ?_ ?_ ?_ ?_ ?_ <;> first | (intro w1 hr hbl hsz) | omega | (unfold maxLen; omega))
  obtain ⟨N, hN⟩ : ∃ N, (s.size + 3) / 4 = N := ⟨_, rfl⟩
  rw [hN] at hr ⊢
  go_loopw [13] (fun i wr => ∃ (j : Nat) (R : Nat → Int), j ≤ s.size ∧ i = .int .i64 j ∧ Arr wr w.heap.size 102 .u32 N R ∧ Hid (∀ q, q < N → R q = wd (cutb a (s.size - j)) q) ∧ Below w.heap.size w wr)
    (fun i _ => s.size - (intOf i).toNat)
  case atStart => exact ⟨0, _, by omega, rfl, hr, by intro q hq; rw [Nat.sub_zero, cutb_all a _ HLT.out, wd_zero], hbl⟩
  case round =>
    clear hr hbl hsz
    obtain ⟨j, R, hj, rfl, hr, hR, hbl⟩ := hrel
    by_cases hlt : j < s.size
    · obtain ⟨k, hk⟩ : ∃ k, s.size = j + 1 + k := ⟨s.size - j - 1, by omega⟩
      have hkN : k / 4 < N := by omega
      have hck := hr.cell hkN
      have hfk := hr.free (k / 4)
      have x1 : (s.size : Int) - 1 - j = k := by omega
      have hdig : ((s[j]'hlt).toNat : Int) = dg a k := by
        have h := nv_digit s k (by omega)
        have e : s.size - 1 - k = j := by omega
        simp only [e] at h
        unfold dg
        rw [← HS.out.nv, h]
      have hst := limb_step a k
      rw [hR.out (k / 4) hkN, show s.size - j = k + 1 from by omega] at hck
      obtain ⟨o1, o2, o3⟩ := limb_or k (wd (cutb a (k + 1)) (k / 4)) (dg a k) ⟨wd_nonneg _ _, wd_lt _ _⟩ hst.2.2 ⟨dg_nonneg a k, dg_le a k⟩
      have HST := Lib.hid hst; clear hst
      have HK := Lib.hid hk; clear hk
      go_wp2_with fail
      have n1 : ((k : Int) / 4).toNat = k / 4 := by omega
      have n2 : (k : Int) / 4 < N := by omega
      have n3 : (0 : Int) ≤ (k : Int) / 4 := by omega
      have n4 : (8 * ((k : Int) % 4)).toNat = 8 * (k % 4) := by omega
      have n5 : (0 : Int) ≤ 8 * ((k : Int) % 4) := by omega
      have n6 : IntKind.i64.wrap (8 * ((k : Int) % 4)) = 8 * ((k : Int) % 4) := IntWalk.i64_in _ (by omega)
      have n7 : IntKind.u32.wrap (dg a k * 2 ^ (8 * (k % 4))) = dg a k * 2 ^ (8 * (k % 4)) := wraps_u32 _ o1 o2
      have n8 : (8 * ((k : Int) % 4)) < 32 := by omega
      have n9 : (j : Int) < (s.size : Int) := by omega
      have n10 : IntKind.u32.wrap (dg a k) = dg a k := wraps_u32 _ (dg_nonneg a k) (by have := dg_lt a k; omega)
      have n11 : ((k : Int).tdiv 4) = (k : Int) / 4 := Int.tdiv_eq_ediv_of_nonneg (by omega)
      have n12 : ((k : Int).tmod 4) = (k : Int) % 4 := Int.tmod_eq_emod_of_nonneg (by omega)
      have n13 : IntKind.i64.wrap ((k : Int) / 4) = (k : Int) / 4 := IntWalk.i64_in _ (by omega)
      have n14 : IntKind.i64.wrap ((k : Int) % 4) = (k : Int) % 4 := IntWalk.i64_in _ (by omega)
      refine wp_region_still_tail 15 (by kernel_rfl) (by kernel_rfl) ?_
      simp only [List.take_succ_cons, List.take_zero, List.drop_succ_cons, List.drop_zero]
      iterate 15 still_step
      refine wpStill_nil ?_
      change wpList _ _ _ _ _ wr.drew
      refine wpList_store_int rfl rfl _ _ _ rfl _ _ _ _ _ rfl rfl hck hfk i0 hi hz1 ?_
      refine wpList_nil ?_
      refine ‹∀ (a : Act) (w : World), Code.wp Try.prog _ _ a w → _› _ _ ?_
      clear n1 n2 n3 n4 n5 n6 n7 n8 n9 n10 n11 n12 n13 n14
      have ha3 := hr.drew.set (k / 4) (wd (cutb a (k + 1)) (k / 4) + dg a k * 2 ^ (8 * (k % 4)))
      have hb3 := hbl.drew.setCell (p := ⟨w.heap.size, k / 4, none⟩) (Nat.le_refl _) (.int .u32 (wd (cutb a (k + 1)) (k / 4) + dg a k * 2 ^ (8 * (k % 4))))
      generalize wr.drew.setCell _ _ = w3 at ha3 hb3 ⊢
      have hR3 : Hid (∀ q, q < N → upd R (k / 4) (wd (cutb a (k + 1)) (k / 4) + dg a k * 2 ^ (8 * (k % 4))) q = wd (cutb a (s.size - (j + 1))) q) := by
        intro q hq
        rw [show s.size - (j + 1) = k from by omega]
        by_cases e : q = k / 4
        · rw [e, upd_same, HST.out.2.1]
        · rw [upd_other _ _ e, hR.out q hq, HST.out.1 q e, show s.size - j = k + 1 from by omega]
      clear hck hfk o1 o2 o3 hdig hr hbl hR x1
      go_wp2_with fail
      go_roundw
      case rel => exact ⟨j + 1, _, by omega, by go_num, ha3, hR3, hb3⟩
      case measure => simp [intOf]; omega
    · obtain rfl : j = s.size := by omega
      have HF := Lib.hid (hr.congr (g := wd a) (fun q hq => by rw [hR.out q hq, Nat.sub_self, cutb_zero]))
      have HL := Lib.hid (below_four HLT.out)
      rw [hN] at HL
      clear hr hR
      go_wp2_with fail
      go_ret
      subst hN
      exact ⟨rfl, HF.out, hbl, HL.out⟩
end Go.Proofs.Ytmbenndmkacjpaa
