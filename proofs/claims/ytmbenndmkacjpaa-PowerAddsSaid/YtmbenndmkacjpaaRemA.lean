/- Contracts of the package modular: remainder, where the number is shorter than the modulus or the modulus is one word. -/
import Derived.Test.YtmbenndmkacjpaaWdl
import Derived.Test.YtmbenndmkacjpaaBitLen
import Derived.Test.YtmbenndmkacjpaaLen
namespace Go.Proofs.Ytmbenndmkacjpaa
open Go.RowKit Num
set_option maxRecDepth 20000
set_option linter.unusedVariables false

namespace Num
theorem wd_top {M t : Nat} (h : wd M t ≠ 0) : 4294967296 ^ t ≤ M := by
  rcases Nat.lt_or_ge M (4294967296 ^ t) with h' | h'
  · exact absurd (by unfold wd; rw [Nat.div_eq_of_lt h']; rfl) h
  · exact h'
theorem tl_pow (M n : Nat) (h : 0 < tl (wd M) n) : 4294967296 ^ (tl (wd M) n - 1) ≤ M := wd_top (tl_top (wd M) n h)
theorem tl_pos (M n : Nat) (hM : M < 4294967296 ^ n) (h0 : 0 < M) : 0 < tl (wd M) n := by
  rcases Nat.eq_zero_or_pos (tl (wd M) n) with h | h
  · have := tl_lt M n hM
    rw [h] at this; omega
  · exact h
theorem less_words {A M t u : Nat} (hA : A < 4294967296 ^ t) (hM : 4294967296 ^ (u - 1) ≤ M) (h : t < u) : A % M = A := by
  refine Nat.mod_eq_of_lt (Nat.lt_of_lt_of_le hA (Nat.le_trans (Nat.pow_le_pow_right (by omega) (by omega)) hM))
/-- one word more in the division by a word -/
theorem word_step (A M i : Nat) : (A / 4294967296 ^ (i + 1) % M * 4294967296 + A / 4294967296 ^ i % 4294967296) % M = A / 4294967296 ^ i % M := by
  have e : A / 4294967296 ^ i = A / 4294967296 ^ (i + 1) * 4294967296 + A / 4294967296 ^ i % 4294967296 := by
    rw [Nat.pow_succ, ← Nat.div_div_eq_div_mul]; omega
  conv => rhs; rw [e]
  rw [Nat.add_mod, Nat.mod_mul_mod, ← Nat.add_mod]
end Num
theorem cell_kept {w w' : World} {a : Addr} {v : Value} (h : w.cell? a = some v) (hb : Below w.heap.size w w') : w'.cell? a = some v := by
  rw [← h]
  unfold World.cell?
  rw [hb.block _ (World.block_lt_of_cell? w a h)]
/-- what remainder is known to give -/
def RemPost (w : World) (x : Nat) (e : Ending) (w' : World) : Prop :=
  ∃ b n c, e = .returned (.slice (some ⟨b, 0, none⟩) n c) ∧ n ≤ c ∧ c ≤ 1000 ∧ Wds w' b n (wd x) ∧ b < w'.heap.size ∧ x < 4294967296 ^ n ∧ Below w.heap.size w w'
set_option maxHeartbeats 1000000 in
theorem remainder_less (ba na ca bm nm cm A M : Nat) (w : World) (h1 : na ≤ ca) (h2 : nm ≤ cm) (g1 : ca ≤ 500) (g2 : cm ≤ 500) (ha : Wds w ba na (wd A)) (hb : Wds w bm nm (wd M)) (l1 : ba < w.heap.size) (l2 : bm < w.heap.size)
    (hA : A < 4294967296 ^ na) (hM : M < 4294967296 ^ nm) (h0 : 0 < M) (hlt : tl (wd A) na < tl (wd M) nm) :
    Calls Try.prog 57 #[.slice (some ⟨ba, 0, none⟩) na ca, .slice (some ⟨bm, 0, none⟩) nm cm] w fun e w' => RemPost w (A % M) e w' := by
  have ta := tl_le (wd A) na
  have tm := tl_le (wd M) nm
  have hta := trim_any ba na ca (wd A) w h1 (by omega) ha
  have htm := trim_any bm nm cm (wd M) w h2 (by omega) hb
  have hAt := tl_lt A na hA
  have hMp := tl_pow M nm (tl_pos M nm hM h0)
  have hmod := less_words hAt hMp hlt
  rw [hmod]
  have hwa := ha.take ta
  generalize tl (wd A) na = x at *
  generalize tl (wd M) nm = y at *
  have HA := Lib.hid hAt
  have HW := Lib.hid hwa
  clear hA hM hAt hMp hmod hwa ha hb
  go_enter Try.func57, Try.ntmps57
  go_wp2_with fail
  refine hta.mono ?_; rintro e w' ⟨rfl, rfl⟩
  go_wp2_with fail
  refine htm.mono ?_; rintro e w' ⟨rfl, rfl⟩
  go_wp2_with fail
  go_ret
  exact ⟨ba, x, ca, rfl, by omega, by omega, HW.out, l1, HA.out, Below.refl _ _⟩
set_option maxHeartbeats 1000000 in
theorem remainder_one (ba na ca bm nm cm A M : Nat) (w : World) (h1 : na ≤ ca) (h2 : nm ≤ cm) (g1 : ca ≤ 500) (g2 : cm ≤ 500) (ha : Wds w ba na (wd A)) (hb : Wds w bm nm (wd M)) (l1 : ba < w.heap.size) (l2 : bm < w.heap.size)
    (hA : A < 4294967296 ^ na) (hM : M < 4294967296 ^ nm) (h0 : 0 < M) (hge : tl (wd M) nm ≤ tl (wd A) na) (h1' : tl (wd M) nm = 1) :
    Calls Try.prog 57 #[.slice (some ⟨ba, 0, none⟩) na ca, .slice (some ⟨bm, 0, none⟩) nm cm] w fun e w' => RemPost w (A % M) e w' := by
  have ta := tl_le (wd A) na
  have tm := tl_le (wd M) nm
  have hta := trim_any ba na ca (wd A) w h1 (by omega) ha
  have htm := trim_any bm nm cm (wd M) w h2 (by omega) hb
  have hAt := tl_lt A na hA
  have hMt := tl_lt M nm hM
  have hwa := ha.take ta
  have hc2 := hb 0 (by omega)
  rw [h1'] at hMt hge htm tm
  have hM1 : M < 4294967296 := by simpa using hMt
  have hm0 : wd M 0 = M := by unfold wd; rw [Nat.pow_zero, Nat.div_one, Nat.mod_eq_of_lt hM1]
  rw [hm0] at hc2
  generalize tl (wd A) na = x at *
  clear h1'
  have HA := Lib.hid hAt
  have HW := Lib.hid hwa
  have nz : ((M : Int) == 0) = false := by rw [beq_eq_false_iff_ne]; omega
  have nz2 : ¬ ((M : Int) = 0) := by omega
  clear hA hM hAt hwa ha hb hMt hm0
  go_enter Try.func57, Try.ntmps57
  go_wp2_with fail
  refine hta.mono ?_; rintro e w' ⟨rfl, rfl⟩
  go_wp2_with fail
  refine htm.mono ?_; rintro e w' ⟨rfl, rfl⟩
  go_wp2_with fail
  go_loopw [6, 7] (fun r i wr => ∃ (k : Nat) (y : Int), k ≤ x ∧ i = .int .i64 y ∧ Hid (y = (k : Int) - 1) ∧ r = .int .u64 ((A / 4294967296 ^ k % M : Nat) : Int) ∧ Below w.heap.size w wr)
    (fun _ i _ => (intOf i + 1).toNat)
  case atStart => exact ⟨x, _, by omega, rfl, rfl, by rw [Nat.div_eq_of_lt HA.out]; simp, Below.refl _ _⟩
  case round =>
    obtain ⟨k, y, hk, rfl, hy, rfl, hbl⟩ := hrel
    rcases k with _ | k
    · obtain rfl : y = -1 := by have := hy.out; simpa using this
      have hr := Nat.mod_lt A h0
      clear hy
      simp only [Nat.pow_zero, Nat.div_one]
      obtain ⟨z, hz⟩ : ∃ z, A % M = z := ⟨_, rfl⟩
      have HZ := Lib.hid hz
      rw [hz] at hr ⊢
      clear hz
      have e : IntKind.u32.wrap (z : Int) = (z : Int) := by rw [IntKind.wrap_u32]; omega
      go_wp2_with fail
      go_ret
      rw [HZ.out]
      refine ⟨_, 1, 1, rfl, by omega, by omega, ?_, by simp, by omega, hbl.alloc hbl.size _⟩
      intro i hi
      obtain rfl : i = 0 := by omega
      rw [new_cell0]
      unfold wd
      simp
      omega
    · obtain rfl : y = k := by have := hy.out; omega
      clear hy
      have hc1 := (HW.out.below hbl l1) k (by omega)
      have hc3 := cell_kept hc2 hbl
      have hw := word_step A M k
      have hr := Nat.mod_lt (A / 4294967296 ^ (k + 1)) h0
      have d0 := wd_nonneg A k
      have d1 := wd_lt A k
      generalize hrr : A / 4294967296 ^ (k + 1) % M = r at hw hr ⊢
      have hw2 : ((r : Int) * 4294967296 + wd A k) % (M : Int) = ((A / 4294967296 ^ k % M : Nat) : Int) := by rw [← hw]; unfold wd; simp
      have s1 : IntKind.u64.wrap ((r : Int) * 4294967296) = (r : Int) * 4294967296 := wraps_u64 _ (by omega) (by omega)
      have s2 : bits .or .u64 ((r : Int) * 4294967296) (wd A k) = (r : Int) * 4294967296 + wd A k := or_u64 32 _ _ (by omega) (by omega) (by omega) d0 (by omega) (by omega)
      have s3 : ((r : Int) * 4294967296 + wd A k).tmod (M : Int) = ((r : Int) * 4294967296 + wd A k) % (M : Int) := Int.tmod_eq_emod_of_nonneg (by omega)
      have s4 : IntKind.u64.wrap (((r : Int) * 4294967296 + wd A k) % (M : Int)) = ((r : Int) * 4294967296 + wd A k) % (M : Int) := by
        have p1 := Int.emod_nonneg ((r : Int) * 4294967296 + wd A k) nz2
        have p2 := Int.emod_lt_of_pos ((r : Int) * 4294967296 + wd A k) (show (0 : Int) < M by omega)
        exact wraps_u64 _ p1 (by omega)
      have HW2 := Lib.hid hw2
      clear hw hw2 hrr
      have i1 : (k : Int) < (x : Int) := by omega
      go_wp2_with fail
      go_quiet (fail)
      have hb3 := below_drewN hbl nq
      generalize wr.drewN nq = w3 at hb3 ⊢
      clear hc1 hc3 s1 s2 s3 s4 i1
      go_wp2_with fail
      rw [HW2.out]
      go_roundw
      case rel => exact ⟨k, _, by omega, rfl, rfl, rfl, hb3⟩
      case measure => simp [intOf]
end Go.Proofs.Ytmbenndmkacjpaa
