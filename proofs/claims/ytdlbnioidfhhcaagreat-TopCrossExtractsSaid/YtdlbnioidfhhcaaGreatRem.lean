import Derived.Test.YtdlbnioidfhhcaaGreatWd
import Derived.Test.YtdlbnioidfhhcaaGreatDiv
import Derived.Test.YtdlbnioidfhhcaaGreatLen
import Derived.Test.YtdlbnioidfhhcaaGreatBitLen
import Derived.Deep.CutBlock
import Derived.Deep.Cut
import Derived.Deep.DeepCutAuto
import Derived.StillTailTactics
import Derived.BigQuiet
/- Contracts of the package modular: remainder, where the number is shorter than the modulus or the modulus is one word. -/
namespace Go.Proofs.YtdlbnioidfhhcaaGreat
open Go.RowKit Num
set_option maxRecDepth 20000
set_option linter.unusedVariables false

namespace Num
theorem wd_top {M t : Nat} (h : wd M t ≠ 0) : 4294967296 ^ t ≤ M := by
  rcases Nat.lt_or_ge M (4294967296 ^ t) with h' | h'
  · exact absurd (by unfold wd; rw [Nat.div_eq_of_lt h']; rfl) h
  · exact h'
theorem tl_pow (M n : Nat) (h : 0 < tl (wd M) n) : 4294967296 ^ (tl (wd M) n - 1) ≤ M := wd_top (tl_top (wd M) n h)
theorem tl_pos (M n : Nat) (hM : M < 4294967296 ^ n) (h0 : 0 < M) : 0 < tl (wd M) n := by
  rcases Nat.eq_zero_or_pos (tl (wd M) n) with h | h
  · have := tl_lt M n hM
    rw [h] at this; omega
  · exact h
theorem less_words {A M t u : Nat} (hA : A < 4294967296 ^ t) (hM : 4294967296 ^ (u - 1) ≤ M) (h : t < u) : A % M = A := by
  refine Nat.mod_eq_of_lt (Nat.lt_of_lt_of_le hA (Nat.le_trans (Nat.pow_le_pow_right (by omega) (by omega)) hM))
/-- one word more in the division by a word -/
theorem word_step (A M i : Nat) : (A / 4294967296 ^ (i + 1) % M * 4294967296 + A / 4294967296 ^ i % 4294967296) % M = A / 4294967296 ^ i % M := by
  have e : A / 4294967296 ^ i = A / 4294967296 ^ (i + 1) * 4294967296 + A / 4294967296 ^ i % 4294967296 := by
    rw [Nat.pow_succ, ← Nat.div_div_eq_div_mul]; omega
  conv => rhs; rw [e]
  rw [Nat.add_mod, Nat.mod_mul_mod, ← Nat.add_mod]
end Num
theorem cell_kept {w w' : World} {a : Addr} {v : Value} (h : w.cell? a = some v) (hb : Below w.heap.size w w') : w'.cell? a = some v := by
  rw [← h]
  unfold World.cell?
  rw [hb.block _ (World.block_lt_of_cell? w a h)]
/-- what remainder is known to give -/
def RemPost (w : World) (x : Nat) (e : Ending) (w' : World) : Prop :=
  ∃ b n c, e = .returned (.slice (some ⟨b, 0, none⟩) n c) ∧ n ≤ c ∧ c ≤ 1000 ∧ Wds w' b n (wd x) ∧ b < w'.heap.size ∧ x < 4294967296 ^ n ∧ Below w.heap.size w w'
set_option maxHeartbeats 1000000 in
theorem remainder_less (ba na ca bm nm cm A M : Nat) (w : World) (h1 : na ≤ ca) (h2 : nm ≤ cm) (g1 : ca ≤ 500) (g2 : cm ≤ 500) (ha : Wds w ba na (wd A)) (hb : Wds w bm nm (wd M)) (l1 : ba < w.heap.size) (l2 : bm < w.heap.size)
    (hA : A < 4294967296 ^ na) (hM : M < 4294967296 ^ nm) (h0 : 0 < M) (hlt : tl (wd A) na < tl (wd M) nm) :
    Calls Tryz.prog 101 #[.slice (some ⟨ba, 0, none⟩) na ca, .slice (some ⟨bm, 0, none⟩) nm cm] w fun e w' => RemPost w (A % M) e w' := by
  have ta := tl_le (wd A) na
  have tm := tl_le (wd M) nm
  have hta := trim_any ba na ca (wd A) w h1 (by omega) ha
  have htm := trim_any bm nm cm (wd M) w h2 (by omega) hb
  have hAt := tl_lt A na hA
  have hMp := tl_pow M nm (tl_pos M nm hM h0)
  have hmod := less_words hAt hMp hlt
  rw [hmod]
  have hwa := ha.take ta
  generalize tl (wd A) na = x at *
  generalize tl (wd M) nm = y at *
  have HA := Lib.hid hAt
  have HW := Lib.hid hwa
  clear hA hM hAt hMp hmod hwa ha hb
  go_enter Tryz.func101, Tryz.ntmps101
  go_wp2_with fail
  refine hta.mono ?_; rintro e w' ⟨rfl, rfl⟩
  go_wp2_with fail
  refine htm.mono ?_; rintro e w' ⟨rfl, rfl⟩
  go_wp2_with fail
  go_ret
  exact ⟨ba, x, ca, rfl, by omega, by omega, HW.out, l1, HA.out, Below.refl _ _⟩
set_option maxHeartbeats 1000000 in
theorem remainder_one (ba na ca bm nm cm A M : Nat) (w : World) (h1 : na ≤ ca) (h2 : nm ≤ cm) (g1 : ca ≤ 500) (g2 : cm ≤ 500) (ha : Wds w ba na (wd A)) (hb : Wds w bm nm (wd M)) (l1 : ba < w.heap.size) (l2 : bm < w.heap.size)
    (hA : A < 4294967296 ^ na) (hM : M < 4294967296 ^ nm) (h0 : 0 < M) (hge : tl (wd M) nm ≤ tl (wd A) na) (h1' : tl (wd M) nm = 1) :
    Calls Tryz.prog 101 #[.slice (some ⟨ba, 0, none⟩) na ca, .slice (some ⟨bm, 0, none⟩) nm cm] w fun e w' => RemPost w (A % M) e w' := by
  have ta := tl_le (wd A) na
  have tm := tl_le (wd M) nm
  have hta := trim_any ba na ca (wd A) w h1 (by omega) ha
  have htm := trim_any bm nm cm (wd M) w h2 (by omega) hb
  have hAt := tl_lt A na hA
  have hMt := tl_lt M nm hM
  have hwa := ha.take ta
  have hc2 := hb 0 (by omega)
  rw [h1'] at hMt hge htm tm
  have hM1 : M < 4294967296 := by simpa using hMt
  have hm0 : wd M 0 = M := by unfold wd; rw [Nat.pow_zero, Nat.div_one, Nat.mod_eq_of_lt hM1]
  rw [hm0] at hc2
  generalize tl (wd A) na = x at *
  clear h1'
  have HA := Lib.hid hAt
  have HW := Lib.hid hwa
  have nz : ((M : Int) == 0) = false := by rw [beq_eq_false_iff_ne]; omega
  have nz2 : ¬ ((M : Int) = 0) := by omega
  clear hA hM hAt hwa ha hb hMt hm0
  go_enter Tryz.func101, Tryz.ntmps101
  go_wp2_with fail
  refine hta.mono ?_; rintro e w' ⟨rfl, rfl⟩
  go_wp2_with fail
  refine htm.mono ?_; rintro e w' ⟨rfl, rfl⟩
  go_wp2_with fail
  go_loopw [6, 7] (fun r i wr => ∃ (k : Nat) (y : Int), k ≤ x ∧ i = .int .i64 y ∧ Hid (y = (k : Int) - 1) ∧ r = .int .u64 ((A / 4294967296 ^ k % M : Nat) : Int) ∧ Below w.heap.size w wr)
    (fun _ i _ => (intOf i + 1).toNat)
  case atStart => exact ⟨x, _, by omega, rfl, rfl, by rw [Nat.div_eq_of_lt HA.out]; simp, Below.refl _ _⟩
  case round =>
    obtain ⟨k, y, hk, rfl, hy, rfl, hbl⟩ := hrel
    rcases k with _ | k
    · obtain rfl : y = -1 := by have := hy.out; simpa using this
      have hr := Nat.mod_lt A h0
      clear hy
      simp only [Nat.pow_zero, Nat.div_one]
      obtain ⟨z, hz⟩ : ∃ z, A % M = z := ⟨_, rfl⟩
      have HZ := Lib.hid hz
      rw [hz] at hr ⊢
      clear hz
      have e : IntKind.u32.wrap (z : Int) = (z : Int) := by rw [IntKind.wrap_u32]; omega
      go_wp2_with fail
      go_ret
      rw [HZ.out]
      refine ⟨_, 1, 1, rfl, by omega, by omega, ?_, by simp, by omega, hbl.alloc hbl.size _⟩
      intro i hi
      obtain rfl : i = 0 := by omega
      rw [new_cell0]
      unfold wd
      simp
      omega
    · obtain rfl : y = k := by have := hy.out; omega
      clear hy
      have hc1 := (HW.out.below hbl l1) k (by omega)
      have hc3 := cell_kept hc2 hbl
      have hw := word_step A M k
      have hr := Nat.mod_lt (A / 4294967296 ^ (k + 1)) h0
      have d0 := wd_nonneg A k
      have d1 := wd_lt A k
      generalize hrr : A / 4294967296 ^ (k + 1) % M = r at hw hr ⊢
      have hw2 : ((r : Int) * 4294967296 + wd A k) % (M : Int) = ((A / 4294967296 ^ k % M : Nat) : Int) := by rw [← hw]; unfold wd; simp
      have s1 : IntKind.u64.wrap ((r : Int) * 4294967296) = (r : Int) * 4294967296 := wraps_u64 _ (by omega) (by omega)
      have s2 : bits .or .u64 ((r : Int) * 4294967296) (wd A k) = (r : Int) * 4294967296 + wd A k := or_u64 32 _ _ (by omega) (by omega) (by omega) d0 (by omega) (by omega)
      have s3 : ((r : Int) * 4294967296 + wd A k).tmod (M : Int) = ((r : Int) * 4294967296 + wd A k) % (M : Int) := Int.tmod_eq_emod_of_nonneg (by omega)
      have s4 : IntKind.u64.wrap (((r : Int) * 4294967296 + wd A k) % (M : Int)) = ((r : Int) * 4294967296 + wd A k) % (M : Int) := by
        have p1 := Int.emod_nonneg ((r : Int) * 4294967296 + wd A k) nz2
        have p2 := Int.emod_lt_of_pos ((r : Int) * 4294967296 + wd A k) (show (0 : Int) < M by omega)
        exact wraps_u64 _ p1 (by omega)
      have HW2 := Lib.hid hw2
      clear hw hw2 hrr
      have i1 : (k : Int) < (x : Int) := by omega
      go_wp2_with fail
      go_quiet (fail)
      have hb3 := below_drewN hbl nq
      generalize wr.drewN nq = w3 at hb3 ⊢
      clear hc1 hc3 s1 s2 s3 s4 i1
      go_wp2_with fail
      rw [HW2.out]
      go_roundw
      case rel => exact ⟨k, _, by omega, rfl, rfl, rfl, hb3⟩
      case measure => simp [intOf]
end Go.Proofs.YtdlbnioidfhhcaaGreat

/- Contracts of the package modular: remainder, the long division by words. -/
namespace Go.Proofs.YtdlbnioidfhhcaaGreat
open Go.RowKit Num
set_option maxRecDepth 20000
set_option linter.unusedVariables false

namespace Num
theorem updd (f : Nat → Int) (i : Nat) (u v : Int) : upd (upd f i u) i v = upd f i v := by
  funext k; unfold upd; split <;> rfl
theorem WInv.kn' {a b n la j : Nat} {R D : Nat → Int} (hn2 : 2 ≤ n) (h : WInv a b n la (j + 1) R) (hb : (b : Int) = ds 4294967296 D 0 n) (hD : ∀ m, 0 ≤ D m ∧ D m ≤ 4294967295) (hn : 1 ≤ D (n - 1)) :
    Kn ((a / 4294967296 ^ j % 4294967296 + 4294967296 * (a / 4294967296 ^ (j + 1) % b) : Nat) : Int) b (D (n - 1)) (D (n - 2)) (R (j + n)) (R (j + n - 1)) (R (j + n - 2)) (ds 4294967296 D 0 (n - 2)) (ds 4294967296 R j (n - 2)) (4294967296 ^ (n - 2)) := by
  obtain ⟨m, rfl⟩ : ∃ m, n = m + 2 := ⟨n - 2, by omega⟩
  exact h.kn hb hD hn
theorem WMid.fin0 {a b n la j : Nat} {R : Nat → Int} {g t : Int} (h : WMid a b n la j R g t) (hbp : 0 < b) (hbn : b ≤ 4294967296 ^ n) (ht : 0 ≤ t) : WInv a b n la j (Num.upd R (j + n) (t % 4294967296)) := by
  obtain ⟨h1, h2⟩ := h.done hbp hbn (h.quot ht)
  rw [h2]; exact h1
theorem WMid.fin1 {a b n la j : Nat} {R R2 D : Nat → Int} {g t c : Int} (h : WMid a b n la j R g t) (hb : (b : Int) = ds 4294967296 D 0 n) (hbp : 0 < b) (hbn : b ≤ 4294967296 ^ n) (ht : t < 0)
    (ha : AddW (Num.upd R (j + n) (t % 4294967296)) R2 D j n c) : c = 1 ∧ R2 (j + n) = 4294967295 ∧ WInv a b n la j (Num.upd R2 (j + n) 0) := by
  have h1 := (h.upd (v := t % 4294967296) (by omega)).back ha hb hbp ht
  obtain ⟨h2, h3⟩ := h1.done hbp hbn h.ge
  have c0 := ha.c0; have c1 := ha.c1
  have e := ha.out (j + n) (by omega)
  rw [upd_same] at e
  exact ⟨by omega, by rw [e]; omega, h2⟩
theorem u64_and32 (n : Int) : bits .and .u64 n 4294967295 = n % 4294967296 := by
  have h255 : (BitVec.ofInt 64 4294967295).toNat = 2 ^ 32 - 1 := by decide
  have key : (BitVec.ofInt 64 n &&& BitVec.ofInt 64 4294967295).toNat = (n % ((2 ^ 64 : Nat) : Int)).toNat % 2 ^ 32 := by
    rw [BitVec.toNat_and, BitVec.toNat_ofInt, h255, Nat.and_two_pow_sub_one_eq_mod]
  show IntKind.u64.wrap ((BitVec.ofInt 64 n &&& BitVec.ofInt 64 4294967295).toNat : Nat) = n % 4294967296
  rw [key, IntKind.wrap_u64]
  omega
/-- the modulus, scaled -/
structure Scl (M s n : Nat) : Prop where
  lt : M * 2 ^ s < 4294967296 ^ n
  pos : 0 < M * 2 ^ s
  ds : ((M * 2 ^ s : Nat) : Int) = ds 4294967296 (wd (M * 2 ^ s)) 0 n
  top : 1 ≤ wd (M * 2 ^ s) (n - 1)
theorem Scl.mk' {M s n : Nat} (hn : 1 ≤ n) (h0 : 0 < M) (hM : M < 4294967296 ^ n) (hl : 4294967296 ^ (n - 1) ≤ M) (hu : M / 4294967296 ^ (n - 1) * 2 ^ s < 4294967296) (hs : s ≤ 31) : Scl M s n := by
  have hp : 0 < 4294967296 ^ (n - 1) := Nat.pow_pos (by omega)
  have hpn : 4294967296 * 4294967296 ^ (n - 1) = 4294967296 ^ n := by rw [Nat.mul_comm, ← Nat.pow_succ]; congr 1; omega
  have hlt : M * 2 ^ s < 4294967296 ^ n := by
    have h1 := Nat.div_add_mod M (4294967296 ^ (n - 1))
    have h2 := Nat.mod_lt M hp
    have h3 : (M / 4294967296 ^ (n - 1) + 1) * 2 ^ s ≤ 4294967296 := by
      generalize M / 4294967296 ^ (n - 1) = x at hu ⊢
      rcases (by omega : s = 0 ∨ s = 1 ∨ s = 2 ∨ s = 3 ∨ s = 4 ∨ s = 5 ∨ s = 6 ∨ s = 7 ∨ s = 8 ∨ s = 9 ∨ s = 10 ∨ s = 11 ∨ s = 12 ∨ s = 13 ∨ s = 14 ∨ s = 15 ∨ s = 16 ∨ s = 17 ∨ s = 18 ∨ s = 19 ∨ s = 20 ∨ s = 21 ∨ s = 22 ∨ s = 23 ∨ s = 24 ∨ s = 25 ∨ s = 26 ∨ s = 27 ∨ s = 28 ∨ s = 29 ∨ s = 30 ∨ s = 31) with
        h | h | h | h | h | h | h | h | h | h | h | h | h | h | h | h | h | h | h | h | h | h | h | h | h | h | h | h | h | h | h | h <;> subst h <;> simp at * <;> omega
    have h4 : M < (M / 4294967296 ^ (n - 1) + 1) * 4294967296 ^ (n - 1) := by
      rw [Nat.add_mul, Nat.mul_comm (M / 4294967296 ^ (n - 1))]; omega
    have h5 : M * 2 ^ s < (M / 4294967296 ^ (n - 1) + 1) * 4294967296 ^ (n - 1) * 2 ^ s := (Nat.mul_lt_mul_right (Nat.two_pow_pos s)).2 h4
    have h6 : (M / 4294967296 ^ (n - 1) + 1) * 4294967296 ^ (n - 1) * 2 ^ s ≤ 4294967296 ^ n := by
      rw [Nat.mul_right_comm, ← hpn]
      exact Nat.mul_le_mul_right _ h3
    omega
  refine ⟨hlt, Nat.mul_pos h0 (Nat.two_pow_pos s), ?_, ?_⟩
  · rw [ds_wd, Nat.pow_zero, Nat.div_one, Nat.mod_eq_of_lt hlt]
  · have h1 : 1 ≤ M * 2 ^ s / 4294967296 ^ (n - 1) := by
      rw [Nat.le_div_iff_mul_le hp, Nat.one_mul]
      exact Nat.le_trans hl (Nat.le_mul_of_pos_right _ (Nat.two_pow_pos s))
    have h2 : M * 2 ^ s / 4294967296 ^ (n - 1) < 4294967296 := by
      rw [Nat.div_lt_iff_lt_mul hp, hpn]; exact hlt
    unfold wd
    rw [Nat.mod_eq_of_lt h2]
    omega
theorem winv_start {A M s n la : Nat} (hn : 1 ≤ n) (hA : A < 4294967296 ^ la) (hl : 4294967296 ^ (n - 1) ≤ M) (hla : n ≤ la) (h : Scl M s n) : WInv (A * 2 ^ s) (M * 2 ^ s) n la (la - n + 1) (wd (A * 2 ^ s)) := by
  refine WInv.start (by omega) ?_ (Nat.le_of_lt h.lt)
  rw [Nat.div_lt_iff_lt_mul (Nat.pow_pos (by omega))]
  have h1 : A * 2 ^ s < 4294967296 ^ la * 2 ^ s := (Nat.mul_lt_mul_right (Nat.two_pow_pos s)).2 hA
  have h2 : 4294967296 ^ la * 2 ^ s = 4294967296 ^ (n - 1) * 2 ^ s * 4294967296 ^ (la - n + 1) := by
    rw [Nat.mul_right_comm, ← Nat.pow_add]; congr 2; omega
  have h3 : 4294967296 ^ (n - 1) * 2 ^ s * 4294967296 ^ (la - n + 1) ≤ M * 2 ^ s * 4294967296 ^ (la - n + 1) := Nat.mul_le_mul_right _ (Nat.mul_le_mul_right _ hl)
  omega
theorem winv_end {A M s n la : Nat} {R : Nat → Int} (h0 : 0 < M) (h : Scl M s n) (hw : WInv (A * 2 ^ s) (M * 2 ^ s) n la 0 R) : (∀ k, k < n → R k = wd (A % M * 2 ^ s) k) ∧ wd (A % M * 2 ^ s) n = 0 := by
  have e : A * 2 ^ s / 4294967296 ^ 0 % (M * 2 ^ s) = A % M * 2 ^ s := by rw [Nat.pow_zero, Nat.div_one, Nat.mul_mod_mul_right]
  have hh := hw.hi
  rw [e] at hh
  refine ⟨fun k hk => ds_word (fun m _ => hw.dig m) hh k hk, ?_⟩
  have h1 : A % M * 2 ^ s < M * 2 ^ s := (Nat.mul_lt_mul_right (Nat.two_pow_pos s)).2 (Nat.mod_lt A h0)
  have := h.lt
  unfold wd
  rw [Nat.div_eq_of_lt (by omega)]; rfl
/-- the parts of a word of the remainder, scaled back -/
theorem back_parts (s : Nat) (h1 : 1 ≤ s) (hs : s ≤ 31) (u v : Int) (hu : 0 ≤ u ∧ u < 4294967296) (hv : 0 ≤ v ∧ v < 4294967296) :
    0 ≤ v * 2 ^ (32 - s) % 4294967296 ∧ v * 2 ^ (32 - s) % 4294967296 < 4294967296 ∧ (v * 2 ^ (32 - s) % 4294967296) % 2 ^ (32 - s) = 0 ∧ 0 ≤ u / 2 ^ s ∧ u / 2 ^ s < 2 ^ (32 - s) := by
  refine ⟨by omega, by omega, ?_⟩
  rcases (by omega : s = 1 ∨ s = 2 ∨ s = 3 ∨ s = 4 ∨ s = 5 ∨ s = 6 ∨ s = 7 ∨ s = 8 ∨ s = 9 ∨ s = 10 ∨ s = 11 ∨ s = 12 ∨ s = 13 ∨ s = 14 ∨ s = 15 ∨ s = 16 ∨ s = 17 ∨ s = 18 ∨ s = 19 ∨ s = 20 ∨ s = 21 ∨ s = 22 ∨ s = 23 ∨ s = 24 ∨ s = 25 ∨ s = 26 ∨ s = 27 ∨ s = 28 ∨ s = 29 ∨ s = 30 ∨ s = 31) with
    h | h | h | h | h | h | h | h | h | h | h | h | h | h | h | h | h | h | h | h | h | h | h | h | h | h | h | h | h | h | h <;> subst h <;> simp <;> omega
end Num
end Go.Proofs.YtdlbnioidfhhcaaGreat

/- Contracts of the package modular: remainder, the long division by words: the walk. -/
namespace Go.Proofs.YtdlbnioidfhhcaaGreat
open Go.RowKit Num
set_option maxRecDepth 100000
set_option linter.unusedVariables false

namespace Num
theorem back_step {R R3 : Nat → Int} {r k : Nat} {v : Int} (hlo : ∀ m, m < k → R3 m = wd r m) (hhi : ∀ m, k ≤ m → R3 m = R m) (hv : v = wd r k) :
    (∀ m, m < k + 1 → upd R3 k v m = wd r m) ∧ (∀ m, k + 1 ≤ m → upd R3 k v m = R m) := by
  refine ⟨fun m hm => ?_, fun m hm => ?_⟩
  · by_cases e : m = k
    · subst e; rw [upd_same]; exact hv
    · rw [upd_other _ _ e]; exact hlo m (by omega)
  · rw [upd_other _ _ (by omega)]; exact hhi m (by omega)
end Num
set_option maxHeartbeats 4000000 in
theorem remainder_long (ba na ca bm nm cm A M : Nat) (w : World) (h1 : na ≤ ca) (h2 : nm ≤ cm) (g1 : ca ≤ 500) (g2 : cm ≤ 500) (ha : Wds w ba na (wd A)) (hb : Wds w bm nm (wd M)) (l1 : ba < w.heap.size) (l2 : bm < w.heap.size)
    (hA : A < 4294967296 ^ na) (hM : M < 4294967296 ^ nm) (h0 : 0 < M) (hge : tl (wd M) nm ≤ tl (wd A) na) (hn2 : 2 ≤ tl (wd M) nm) :
    Calls Tryz.prog 101 #[.slice (some ⟨ba, 0, none⟩) na ca, .slice (some ⟨bm, 0, none⟩) nm cm] w fun e w' => RemPost w (A % M) e w' := by
  have ta := tl_le (wd A) na
  have tm := tl_le (wd M) nm
  have hta := trim_any ba na ca (wd A) w h1 (by omega) ha
  have htm := trim_any bm nm cm (wd M) w h2 (by omega) hb
  have hAt := tl_lt A na hA
  have hMt := tl_lt M nm hM
  have hMp := tl_pow M nm (by omega)
  have hwa := ha.take ta
  have hwm := hb.take tm
  generalize tl (wd A) na = la at *
  generalize tl (wd M) nm = n at *
  have htop : ((M / 4294967296 ^ (n - 1) : Nat) : Int) = wd M (n - 1) := by
    unfold wd
    rw [Nat.mod_eq_of_lt]
    rw [Nat.div_lt_iff_lt_mul (Nat.pow_pos (by omega)), Nat.mul_comm, ← Nat.pow_succ, show (n - 1).succ = n from by omega]
    exact hMt
  have htop1 : 1 ≤ M / 4294967296 ^ (n - 1) := by rw [Nat.le_div_iff_mul_le (Nat.pow_pos (by omega)), Nat.one_mul]; exact hMp
  have htl := wd_lt M (n - 1)
  obtain ⟨s, hs, s31, _, su⟩ := shift32 (M / 4294967296 ^ (n - 1)) htop1 (by omega)
  have hscl := Scl.mk' (by omega) h0 hMt hMp su s31
  have hstart := winv_start (by omega) hAt hMp hge hscl
  have HS := Lib.hid hs
  have HTOP := Lib.hid htop
  have HSCL := Lib.hid hscl
  have HST := Lib.hid hstart
  have HA := Lib.hid hAt
  have HM := Lib.hid hMt
  have hct := hwm (n - 1) (by omega)
  rw [← htop] at hct htl
  clear hs htop hscl hstart hAt hMt hMp hA hM ha hb su
  generalize M / 4294967296 ^ (n - 1) = tp at *
  have i1 : IntKind.i64.wrap ((n : Int) - 1) = (n : Int) - 1 := IntWalk.i64_in _ (by omega)
  have i2 : ((n : Int) - 1).toNat = n - 1 := by omega
  have i3 : (0 : Int) ≤ (n : Int) - 1 := by omega
  have i4 : (n : Int) - 1 < (n : Int) := by omega
  have i5 : ((n : Int) == 1) = false := by rw [beq_eq_false_iff_ne]; omega
  clear htl htop1
  go_enter Tryz.func101, Tryz.ntmps101
  go_wp2_with fail
  refine hta.mono ?_; rintro e w' ⟨rfl, rfl⟩
  go_wp2_with fail
  refine htm.mono ?_; rintro e w' ⟨rfl, rfl⟩
  go_wp2_with fail
  refine (bits_LeadingZeros32 _ _ (by omega) (by have := HTOP.out; have := wd_lt M (n - 1); omega)).mono ?_; rintro e w' ⟨rfl, rfl⟩
  rw [Int.toNat_natCast, HS.out]
  go_wp2_with fail
  have hwm' : Wds w.drew bm n (wd M) := hwm
  go_region_with (first | (go_at_call 121; (with_reducible refine (shifted_any ba la ca s A _ ?a1 ?a2 s31 ?a3 ?a4 HA.out).mono ?_); (case a1 => omega); (case a2 => omega); (case a3 => exact hwa); (case a4 => exact l1); rintro e w1 ⟨rfl, hu, hb1⟩) | (go_at_call 121; (with_reducible refine (shifted_any bm n cm s M _ ?a1 ?a2 s31 ?a3 ?a4 HM.out).mono ?_); (case a1 => omega); (case a2 => omega); (case a3 => exact hwm'.below hb1 l2); (case a4 => exact Nat.lt_of_lt_of_le l2 hb1.size); rintro e w2 ⟨rfl, hv, hb2⟩))
  clear hwm' hta htm hct hwa hwm i1 i2 i3 i4 i5
  have z1 := hb1.size
  have z2 := hb2.size
  have hu2 := hu.below hb2 hu.lt
  have hlu := hu.lt
  have hb : Below w.heap.size w w2 := (below_drewN (Below.refl w.heap.size w) 1).trans (hb1.trans (hb2.mono hb1.size))
  have hu3 : Arr w2 w.heap.size 169 .u32 (la + 1) (wd (A * 2 ^ s)) := hu2
  obtain ⟨bv, hbv⟩ : ∃ bv, w1.heap.size = bv := ⟨_, rfl⟩
  have hul : w.heap.size < bv := by rw [← hbv]; exact hlu
  rw [hbv] at hv ⊢
  clear hu2 hu hb1 hb2 hlu z1 z2 hbv
  clear w1
  have j1 : IntKind.i64.wrap ((la : Int) + 1 - n) = (la : Int) + 1 - n := IntWalk.i64_in _ (by omega)
  have j2 : IntKind.i64.wrap ((la : Int) + 1 - n - 1) = (la : Int) + 1 - n - 1 := IntWalk.i64_in _ (by omega)
  obtain ⟨X, hX⟩ : ∃ X, A * 2 ^ s = X := ⟨_, rfl⟩
  obtain ⟨Y, hY⟩ : ∃ Y, M * 2 ^ s = Y := ⟨_, rfl⟩
  have hsc := HSCL.out
  have hst := HST.out
  rw [hX] at hu3 hst
  rw [hY] at hv hst
  obtain ⟨y1, y2, y3, y4⟩ := hsc
  rw [hY] at y1 y2 y3 y4
  have Y1 := Lib.hid y1
  have Y3 := Lib.hid y3
  have HX := Lib.hid hX
  have HY := Lib.hid hY
  clear HST y1 y3 hX hY HS HTOP HA HM
  go_wp2_with fail
  go_loopw [11] (fun i wr => ∃ (jj : Nat) (x : Int) (R : Nat → Int), i = .int .i64 x ∧ Hid (x = (jj : Int) - 1) ∧ jj ≤ la - n + 1 ∧ WInv X Y n la jj R ∧ Arr wr w.heap.size 169 .u32 (la + 1) R ∧ Arr wr bv 169 .u32 (n + 1) (wd Y) ∧ Below w.heap.size w wr)
    (fun i _ => (intOf i + 1).toNat)
  case atStart => exact ⟨la - n + 1, _, wd X, rfl, by show _ = _; omega, by omega, hst, hu3, hv, hb⟩
  case round =>
    clear hu3 hv hb hst
    obtain ⟨jj, x, R, rfl, hx, hjj, hinv, hu, hv, hb⟩ := hrel
    rcases jj with _ | j
    · obtain rfl : x = -1 := by have := hx.out; simpa using this
      clear hx
      obtain ⟨r, hr⟩ : ∃ r, A % M = r := ⟨_, rfl⟩
      rw [← HX.out, ← HY.out] at hinv
      have hE := winv_end h0 HSCL.out hinv
      rw [hr] at hE
      have hrlt : r < 4294967296 ^ n := by
        have l1 := Nat.mod_lt A h0
        have l2 := HSCL.out.lt
        have l3 := Nat.le_mul_of_pos_right M (Nat.two_pow_pos s)
        omega
      have HR := Lib.hid hr
      have HE := Lib.hid hE
      have HRL := Lib.hid hrlt
      have HD := Lib.hid hinv.dig
      clear hinv hr hE hrlt HSCL HX HY Y1 Y3
      go_wp2_with fail
      go_loopw [252] (fun i wr => ∃ (k : Nat) (R3 : Nat → Int), k ≤ n ∧ i = .int .i64 k ∧ Hid (∀ m, m < k → R3 m = wd r m) ∧ Hid (∀ m, k ≤ m → R3 m = R m) ∧ Arr wr w.heap.size 169 .u32 (la + 1) R3 ∧ Below w.heap.size w wr)
        (fun i _ => n - (intOf i).toNat)
      case atStart => exact ⟨0, R, by omega, rfl, fun _ h => by omega, fun _ _ => rfl, hu, hb⟩
      case round =>
        clear hu hv hb
        obtain ⟨k, R3, hk, rfl, hlo, hhi, hu, hb⟩ := hrel
        by_cases hlt : k < n
        · have q0 := wd_nonneg (r * 2 ^ s) k
          have q1 := wd_lt (r * 2 ^ s) k
          have r0 := wd_nonneg (r * 2 ^ s) (k + 1)
          have r1 := wd_lt (r * 2 ^ s) (k + 1)
          have hc1 := hu.cell (show k < la + 1 by omega)
          have hf1 := hu.free k
          rw [hhi.out k (Nat.le_refl k), HE.out.1 k hlt] at hc1
          have hw := rest_word r s k s31
          have HW := Lib.hid hw
          clear hw
          rcases Nat.eq_zero_or_pos s with hs0 | hs0
          · subst hs0
            have t1 : decide ((0 : Int) < 0) = false := rfl
            have hst := back_step hlo.out hhi.out (v := wd r k) rfl
            go_wp2_with fail
            exact ⟨⟨k + 1, _, by omega, by go_num, hst.1, hst.2, hu.set k _, hb.setCell (Nat.le_refl _) _⟩, by simp [intOf]; omega⟩
          · have t1 : decide ((0 : Int) < (s : Int)) = true := by rw [decide_eq_true_eq]; omega
            by_cases hlast : k + 1 < n
            · have t2 : decide ((k : Int) + 1 < (n : Int)) = true := by rw [decide_eq_true_eq]; omega
              go_wp2_with fail
              have hu2 := hu.set k (wd (r * 2 ^ s) k / 2 ^ s)
              have hb2 := hb.setCell (p := ⟨w.heap.size, k, none⟩) (Nat.le_refl _) (.int .u32 (wd (r * 2 ^ s) k / 2 ^ s))
              generalize wr.setCell _ _ = w2 at hu2 hb2 ⊢
              have hc2 := hu2.cell (show k < la + 1 by omega)
              have hf2 := hu2.free k
              have hc3 := hu2.cell (show k + 1 < la + 1 by omega)
              rw [upd_same] at hc2
              rw [upd_other _ _ (show k + 1 ≠ k by omega), hhi.out (k + 1) (by omega), HE.out.1 (k + 1) hlast] at hc3
              clear hc1 hf1 hu hb t1 t2
              obtain ⟨o1, o2, o3, o4, o5⟩ := back_parts s hs0 s31 (wd (r * 2 ^ s) k) (wd (r * 2 ^ s) (k + 1)) ⟨q0, q1⟩ ⟨r0, r1⟩
              have hor : bits .or .u32 (wd (r * 2 ^ s) k / 2 ^ s) (wd (r * 2 ^ s) (k + 1) * 2 ^ (32 - s) % 4294967296) = wd r k := by
                rw [or_u32_right (32 - s) _ _ o1 o3 (by omega) o4 o5 (by omega), Int.add_comm]; exact HW.out
              obtain ⟨va, hva⟩ : ∃ va, wd (r * 2 ^ s) k / 2 ^ s = va := ⟨_, rfl⟩
              obtain ⟨vb, hvb⟩ : ∃ vb, wd (r * 2 ^ s) (k + 1) = vb := ⟨_, rfl⟩
              rw [hva] at hc2 hor hu2
              rw [hvb] at hc3 hor r0 r1
              have HOR := Lib.hid hor
              clear hva hvb hor o1 o2 o3 o4 o5
              have g1 : IntKind.i64.wrap ((k : Int) + 1) = (k : Int) + 1 := IntWalk.i64_in _ (by omega)
              have g2 : IntKind.i64.wrap (32 - (s : Int)) = 32 - (s : Int) := IntWalk.i64_in _ (by omega)
              have g3 : (0 : Int) ≤ (k : Int) + 1 := by omega
              have g4 : (0 : Int) ≤ 32 - (s : Int) := by omega
              have g5 : (32 - (s : Int)).toNat = 32 - s := by omega
              have g6 : ((k : Int) + 1).toNat = k + 1 := by omega
              have g7 : (32 - (s : Int)) < 32 := by omega
              have g8 : (k : Int) + 1 < (n : Int) := by omega
              have g9 : (k : Int) < (n : Int) := by omega
              refine wp_region_still_tail 14 (by kernel_rfl) (by kernel_rfl) ?_
              simp only [List.take_succ_cons, List.take_zero, List.drop_succ_cons, List.drop_zero]
              iterate 14 still_step
              refine wpStill_nil ?_
              change wpList _ _ _ _ _ w2.drew
              obtain ⟨i0, hi, hz0, hz1, hz2⟩ := info_parts info_w32
              refine wpList_store_int rfl rfl _ _ _ rfl _ _ _ _ _ rfl rfl hc2 hf2 i0 hi hz1 ?_
              refine wpList_nil ?_
              refine ‹∀ (a : Act) (w : World), Code.wp Tryz.prog _ _ a w → _› _ _ ?_
              rw [IntKind.wrap_u32, HOR.out]
              have hu3 := hu2.drew.set k (wd r k)
              have hb3 := hb2.drew.setCell (p := ⟨w.heap.size, k, none⟩) (Nat.le_refl _) (.int .u32 (wd r k))
              generalize w2.drew.setCell _ _ = w3 at hu3 hb3 ⊢
              rw [updd] at hu3
              have hst := back_step hlo.out hhi.out (v := wd r k) rfl
              have HST := Lib.hid hst
              clear hi hz0 hz1 hz2 hc2 hc3 hf2 hu2 hb2 HOR g1 g2 g3 g4 g5 g6 g7 g8 g9 hst
              go_wp2_with fail
              exact ⟨⟨k + 1, _, by omega, by go_num, HST.out.1, HST.out.2, hu3, hb3⟩, by simp [intOf]; omega⟩
            · have t2 : decide ((k : Int) + 1 < (n : Int)) = false := by rw [decide_eq_false_iff_not]; omega
              have hl : wd (r * 2 ^ s) (k + 1) = 0 := by rw [show k + 1 = n from by omega]; exact HE.out.2
              have hst := back_step hlo.out hhi.out (v := wd (r * 2 ^ s) k / 2 ^ s) (by rw [← HW.out, hl]; simp)
              have HST := Lib.hid hst
              clear hst hl
              go_wp2_with fail
              exact ⟨⟨k + 1, _, by omega, by go_num, HST.out.1, HST.out.2, hu.set k _, hb.setCell (Nat.le_refl _) _⟩, by simp [intOf]; omega⟩
        · obtain rfl : k = n := by omega
          go_wp2_with fail
          go_ret
          rw [HR.out]
          exact ⟨_, k, la + 1, rfl, by omega, by omega, fun i hi => by rw [hu.cell (show i < la + 1 by omega), hlo.out i hi], hu.lt, HRL.out, hb⟩
    ·
      -- {{
      obtain rfl : x = j := by have := hx.out; omega
      clear hx
      have hjla : j + n ≤ la := by omega
      have hkn := hinv.kn' hn2 Y3.out (fun m => ⟨wd_nonneg _ m, wd_le _ m⟩) y4
      have c0 := hu.cell (show j + n < la + 1 by omega)
      have c1 := hu.cell (show j + n - 1 < la + 1 by omega)
      have c2 := hu.cell (show j + n - 2 < la + 1 by omega)
      have c3 := hv.cell (show n - 1 < n + 1 by omega)
      have c4 := hv.cell (show n - 2 < n + 1 by omega)
      have d0 := hinv.dig (j + n)
      have d1 := hinv.dig (j + n - 1)
      have d2 := hinv.dig (j + n - 2)
      have d3 := wd_le Y (n - 1)
      have d4 := wd_le Y (n - 2)
      have d5 := wd_nonneg Y (n - 2)
      obtain ⟨u0, hu0⟩ : ∃ u, R (j + n) = u := ⟨_, rfl⟩
      obtain ⟨u1, hu1⟩ : ∃ u, R (j + n - 1) = u := ⟨_, rfl⟩
      obtain ⟨u2, hu2⟩ : ∃ u, R (j + n - 2) = u := ⟨_, rfl⟩
      obtain ⟨v1, hv1⟩ : ∃ u, wd Y (n - 1) = u := ⟨_, rfl⟩
      obtain ⟨v2, hv2⟩ : ∃ u, wd Y (n - 2) = u := ⟨_, rfl⟩
      rw [hu0] at c0 d0
      rw [hu1] at c1 d1
      rw [hu2] at c2 d2
      rw [hv1] at c3 d3
      have d6 := y4
      rw [hv1] at d6
      rw [hv2] at c4 d4 d5
      rw [hu0, hu1, hu2, hv1, hv2] at hkn
      clear hu0 hu1 hu2 hv1 hv2
      obtain ⟨Wn, hWn⟩ : ∃ Wn : Nat, X / 4294967296 ^ j % 4294967296 + 4294967296 * (X / 4294967296 ^ (j + 1) % Y) = Wn := ⟨_, rfl⟩
      rw [hWn] at hkn
      have HWN := Lib.hid hWn
      have HK := Lib.hid hkn; clear hkn hWn
      have e4 : IntKind.i64.wrap ((n : Int) - 2) = (n : Int) - 2 := IntWalk.i64_in _ (by omega)
      have e5 : IntKind.i64.wrap ((j : Int) + (n : Int) - 2) = (j : Int) + n - 2 := IntWalk.i64_in _ (by omega)
      have n4 : ((n : Int) - 2).toNat = n - 2 := by omega
      have n5 : ((j : Int) + (n : Int) - 2).toNat = j + n - 2 := by omega
      have b7 : (0 : Int) ≤ (j : Int) + (n : Int) - 2 := by omega
      have b8 : (j : Int) + (n : Int) - 2 < (la : Int) + 1 := by omega
      have b9 : (0 : Int) ≤ (n : Int) - 2 := by omega
      have b10 : (n : Int) - 2 < (n : Int) := by omega
      have e1 : IntKind.i64.wrap ((j : Int) + (n : Int)) = (j : Int) + n := IntWalk.i64_in _ (by omega)
      have e2 : IntKind.i64.wrap ((j : Int) + (n : Int) - 1) = (j : Int) + n - 1 := IntWalk.i64_in _ (by omega)
      have e3 : IntKind.i64.wrap ((n : Int) - 1) = (n : Int) - 1 := IntWalk.i64_in _ (by omega)
      have n1 : ((j : Int) + (n : Int)).toNat = j + n := by omega
      have n2 : ((j : Int) + (n : Int) - 1).toNat = j + n - 1 := by omega
      have n3 : ((n : Int) - 1).toNat = n - 1 := by omega
      have b1 : (0 : Int) ≤ (j : Int) + (n : Int) := by omega
      have b2 : (j : Int) + (n : Int) < (la : Int) + 1 := by omega
      have b3 : (0 : Int) ≤ (j : Int) + (n : Int) - 1 := by omega
      have b4 : (j : Int) + (n : Int) - 1 < (la : Int) + 1 := by omega
      have b5 : (0 : Int) ≤ (n : Int) - 1 := by omega
      have b6 : (n : Int) - 1 < (n : Int) := by omega
      have o1 : IntKind.u64.wrap (u0 * 4294967296) = u0 * 4294967296 := wraps_u64 _ (by omega) (by omega)
      have o2 : bits .or .u64 (u0 * 4294967296) u1 = u0 * 4294967296 + u1 := or_u64 32 _ _ (by omega) (by omega) (by omega) d1.1 d1.2 (by omega)
      go_wp2_with fail
      go_quiet (fail)
      have hu3 : Arr (wr.drewN nq) w.heap.size 169 .u32 (la + 1) R := hu
      have hv3 : Arr (wr.drewN nq) bv 169 .u32 (n + 1) (wd Y) := hv
      have hb3 := below_drewN hb nq
      have k2 : (wr.drewN nq).cell? ⟨w.heap.size, j + n - 2, none⟩ = some (.int .u32 u2) := c2
      have k3 : (wr.drewN nq).cell? ⟨bv, n - 1, none⟩ = some (.int .u32 v1) := c3
      have k4 : (wr.drewN nq).cell? ⟨bv, n - 2, none⟩ = some (.int .u32 v2) := c4
      generalize wr.drewN nq = w3 at hu3 hv3 hb3 k2 k3 k4 ⊢
      clear hu hv hb c0 c1 c2 c3 c4 o1 o2
      obtain ⟨T, hT⟩ : ∃ T, u0 * 4294967296 + u1 = T := ⟨_, rfl⟩
      have hT0 : 0 ≤ T := by omega
      have hT1 : T < 18446744073709551616 := by omega
      have q1 : T.tdiv v1 = T / v1 := Int.tdiv_eq_ediv_of_nonneg hT0
      have q2 : T.tmod v1 = T % v1 := Int.tmod_eq_emod_of_nonneg hT0
      have q3 : 0 ≤ T / v1 := Int.ediv_nonneg hT0 (by omega)
      have q4 : T / v1 ≤ T := Int.ediv_le_self _ hT0
      have q5 : 0 ≤ T % v1 := Int.emod_nonneg _ (by omega)
      have q6 : T % v1 < v1 := Int.emod_lt_of_pos _ (by omega)
      have q7 : IntKind.u64.wrap (T / v1) = T / v1 := wraps_u64 _ q3 (by omega)
      have q8 : IntKind.u64.wrap (T % v1) = T % v1 := wraps_u64 _ q5 (by omega)
      have q9 : T / v1 * v1 + T % v1 = 4294967296 * u0 + u1 := by rw [Int.mul_comm, Int.mul_ediv_add_emod]; omega
      have nz : (v1 == 0) = false := by rw [beq_eq_false_iff_ne]; omega
      have nz2 : ¬ (v1 = 0) := by omega
      have hqs := HK.out.start
      rw [show 4294967296 * u0 + u1 = T from by omega] at hqs
      rw [hT]
      have HT := Lib.hid hT
      have HQS := Lib.hid hqs
      have Q9 := Lib.hid q9
      clear hT hqs q9
      go_wp2_with fail
      go_quiet (fail)
      have hu4 : Arr (w3.drewN nq) w.heap.size 169 .u32 (la + 1) R := hu3
      have hv4 : Arr (w3.drewN nq) bv 169 .u32 (n + 1) (wd Y) := hv3
      have hb4 := below_drewN hb3 nq
      have m2 : (w3.drewN nq).cell? ⟨w.heap.size, j + n - 2, none⟩ = some (.int .u32 u2) := k2
      have m3 : (w3.drewN nq).cell? ⟨bv, n - 1, none⟩ = some (.int .u32 v1) := k3
      have m4 : (w3.drewN nq).cell? ⟨bv, n - 2, none⟩ = some (.int .u32 v2) := k4
      generalize w3.drewN nq = w4 at hu4 hv4 hb4 m2 m3 m4 ⊢
      clear hu3 hv3 hb3 k2 k3 k4 q1 q2 q7 q8 nz nz2
      obtain ⟨Q0, hQ0⟩ : ∃ Q0, T / v1 = Q0 := ⟨_, rfl⟩
      obtain ⟨R0, hR0⟩ : ∃ R0, T % v1 = R0 := ⟨_, rfl⟩
      rw [hQ0] at q3 q4 HQS Q9 ⊢
      rw [hR0] at q5 q6 Q9 ⊢
      clear hQ0 hR0
      go_upto_block 4 with fail
      go_cut [13, 14] from 116 to 151 (fun s13 s14 wc => ∃ q r : Int, s13 = .int .u64 q ∧ s14 = .int .u64 r ∧ Hid ((Wn : Int) / (Y : Int) ≤ q ∧ (q - 1) * (Y : Int) ≤ (Wn : Int)) ∧ 0 ≤ q ∧ q ≤ 4294967295 ∧
          Arr wc w.heap.size 169 .u32 (la + 1) R ∧ Arr wc bv 169 .u32 (n + 1) (wd Y) ∧ Below w.heap.size w wc)
      case first =>
        -- {{
        go_wp2_with fail
        go_loopw [13, 14] (fun s13 s14 wr => ∃ q r : Int, s13 = .int .u64 q ∧ s14 = .int .u64 r ∧ Hid ((Wn : Int) / (Y : Int) ≤ q) ∧ Hid (q * v1 + r = 4294967296 * u0 + u1) ∧ 0 ≤ q ∧ q < 18446744073709551616 ∧ 0 ≤ r ∧ r < 4294967296 ∧
            wr.cell? ⟨w.heap.size, j + n - 2, none⟩ = some (.int .u32 u2) ∧ wr.cell? ⟨bv, n - 1, none⟩ = some (.int .u32 v1) ∧ wr.cell? ⟨bv, n - 2, none⟩ = some (.int .u32 v2) ∧
            Arr wr w.heap.size 169 .u32 (la + 1) R ∧ Arr wr bv 169 .u32 (n + 1) (wd Y) ∧ Below w.heap.size w wr)
          (fun s13 _ _ => (intOf s13).toNat)
        case atStart => exact ⟨_, _, rfl, rfl, HQS, Q9, q3, by omega, q5, by omega, m2, m3, m4, hu4, hv4, hb4⟩
        case round =>
          clear hu4 hv4 hb4 m2 m3 m4 q3 q4 q5 q6 HQS Q9
          obtain ⟨q, r, rfl, rfl, hq, he, q0, qT, r0, rW, m2, m3, m4, hu, hv, hb⟩ := hrel
          by_cases hqW : 4294967296 ≤ q
          · have hless := HK.out.less' hqW
            have HL := Lib.hid hless
            clear hless
            have t1 : decide (4294967296 ≤ q) = true := decide_eq_true hqW
            go_wp2_with fail
            go_quiet (fail)
            have hu5 : Arr (wr.drewN nq) w.heap.size 169 .u32 (la + 1) R := hu
            have hv5 : Arr (wr.drewN nq) bv 169 .u32 (n + 1) (wd Y) := hv
            have hb5 := below_drewN hb nq
            have p2 : (wr.drewN nq).cell? ⟨w.heap.size, j + n - 2, none⟩ = some (.int .u32 u2) := m2
            have p3 : (wr.drewN nq).cell? ⟨bv, n - 1, none⟩ = some (.int .u32 v1) := m3
            have p4 : (wr.drewN nq).cell? ⟨bv, n - 2, none⟩ = some (.int .u32 v2) := m4
            generalize wr.drewN nq = w5 at hu5 hv5 hb5 p2 p3 p4 ⊢
            clear hu hv hb m2 m3 m4
            clear t1
            have he2 : (q - 1) * v1 + (r + v1) = 4294967296 * u0 + u1 := by have := he.out; rw [Int.sub_mul]; omega
            have hl2 : (Wn : Int) / (Y : Int) ≤ q - 1 := by have := HL.out; omega
            have hq1 : 0 ≤ q - 1 := by
              have h0 : 0 ≤ (Wn : Int) / (Y : Int) := Int.ediv_nonneg (by omega) (by omega)
              omega
            have a1 : IntKind.u64.wrap (q - 1) = q - 1 := wraps_u64 _ hq1 (by omega)
            have a2 : IntKind.u64.wrap (r + v1) = r + v1 := wraps_u64 _ (by omega) (by omega)
            by_cases hbr : 4294967296 ≤ r + v1
            · have hqs : q - 1 ≤ 4294967295 := by
                rcases Int.lt_or_le 4294967295 (q - 1) with h | h
                · have := HK.out.small (q := q - 1) (by omega) he2; omega
                · exact h
              have hnr := HK.out.near ⟨hq1, hqs⟩ he2 (.inl hbr)
              have HE := Lib.hid (And.intro hl2 hnr)
              clear he2 hl2 hnr
              have t2 : decide (4294967296 ≤ r + v1) = true := decide_eq_true hbr
              go_wp2_with fail
              go_meet
              exact ⟨_, _, rfl, rfl, HE.out, by omega, by omega, hu5, hv5, hb5⟩
            · have t2 : decide (4294967296 ≤ r + v1) = false := decide_eq_false hbr
              have HE := Lib.hid he2
              have HL2 := Lib.hid hl2
              clear he2 hl2
              go_wp2_with fail
              go_roundw
              case rel => exact ⟨_, _, rfl, rfl, HL2.out, HE.out, by omega, by omega, by omega, by omega, p2, p3, p4, hu5, hv5, hb5⟩
              case measure => simp [intOf]; omega
          · have hvq := mac_le (x := q) (d := v2) ⟨q0, by omega⟩ ⟨d5, d4⟩
            have a3 : IntKind.u64.wrap (q * v2) = q * v2 := wraps_u64 _ hvq.1 (by omega)
            have a4 : IntKind.u64.wrap (r * 4294967296) = r * 4294967296 := wraps_u64 _ (by omega) (by omega)
            have a5 : bits .or .u64 (r * 4294967296) u2 = r * 4294967296 + u2 := or_u64 32 _ _ (by omega) (by omega) (by omega) d2.1 d2.2 (by omega)
            have t1 : decide (4294967296 ≤ q) = false := decide_eq_false hqW
            by_cases ht : r * 4294967296 + u2 < q * v2
            · have hless := HK.out.less q0 he.out (by omega)
              have HL := Lib.hid hless
              clear hless hvq
              have t3 : decide (r * 4294967296 + u2 < q * v2) = true := decide_eq_true ht
              go_wp2_with fail
              go_quiet (fail)
              have hu5 : Arr (wr.drewN nq) w.heap.size 169 .u32 (la + 1) R := hu
              have hv5 : Arr (wr.drewN nq) bv 169 .u32 (n + 1) (wd Y) := hv
              have hb5 := below_drewN hb nq
              have p2 : (wr.drewN nq).cell? ⟨w.heap.size, j + n - 2, none⟩ = some (.int .u32 u2) := m2
              have p3 : (wr.drewN nq).cell? ⟨bv, n - 1, none⟩ = some (.int .u32 v1) := m3
              have p4 : (wr.drewN nq).cell? ⟨bv, n - 2, none⟩ = some (.int .u32 v2) := m4
              generalize wr.drewN nq = w5 at hu5 hv5 hb5 p2 p3 p4 ⊢
              clear hu hv hb m2 m3 m4
              clear t1 t3 a3 a4 a5
              have he2 : (q - 1) * v1 + (r + v1) = 4294967296 * u0 + u1 := by have := he.out; rw [Int.sub_mul]; omega
              have hl2 : (Wn : Int) / (Y : Int) ≤ q - 1 := by have := HL.out; omega
              have hq1 : 0 ≤ q - 1 := by
                have h0 : 0 ≤ (Wn : Int) / (Y : Int) := Int.ediv_nonneg (by omega) (by omega)
                omega
              have a1 : IntKind.u64.wrap (q - 1) = q - 1 := wraps_u64 _ hq1 (by omega)
              have a2 : IntKind.u64.wrap (r + v1) = r + v1 := wraps_u64 _ (by omega) (by omega)
              by_cases hbr : 4294967296 ≤ r + v1
              · have hqs : q - 1 ≤ 4294967295 := by
                  rcases Int.lt_or_le 4294967295 (q - 1) with h | h
                  · have := HK.out.small (q := q - 1) (by omega) he2; omega
                  · exact h
                have hnr := HK.out.near ⟨hq1, hqs⟩ he2 (.inl hbr)
                have HE := Lib.hid (And.intro hl2 hnr)
                clear he2 hl2 hnr
                have t2 : decide (4294967296 ≤ r + v1) = true := decide_eq_true hbr
                go_wp2_with fail
                go_meet
                exact ⟨_, _, rfl, rfl, HE.out, by omega, by omega, hu5, hv5, hb5⟩
              · have t2 : decide (4294967296 ≤ r + v1) = false := decide_eq_false hbr
                have HE := Lib.hid he2
                have HL2 := Lib.hid hl2
                clear he2 hl2
                go_wp2_with fail
                go_roundw
                case rel => exact ⟨_, _, rfl, rfl, HL2.out, HE.out, by omega, by omega, by omega, by omega, p2, p3, p4, hu5, hv5, hb5⟩
                case measure => simp [intOf]; omega
            · have hnr := HK.out.near ⟨q0, by omega⟩ he.out (.inr (by omega))
              have HE := Lib.hid (And.intro hq.out hnr)
              clear hnr hvq
              have t3 : decide (r * 4294967296 + u2 < q * v2) = false := decide_eq_false ht
              go_wp2_with fail
              go_quiet (fail)
              have hu5 : Arr (wr.drewN nq) w.heap.size 169 .u32 (la + 1) R := hu
              have hv5 : Arr (wr.drewN nq) bv 169 .u32 (n + 1) (wd Y) := hv
              have hb5 := below_drewN hb nq
              have p2 : (wr.drewN nq).cell? ⟨w.heap.size, j + n - 2, none⟩ = some (.int .u32 u2) := m2
              have p3 : (wr.drewN nq).cell? ⟨bv, n - 1, none⟩ = some (.int .u32 v1) := m3
              have p4 : (wr.drewN nq).cell? ⟨bv, n - 2, none⟩ = some (.int .u32 v2) := m4
              generalize wr.drewN nq = w5 at hu5 hv5 hb5 p2 p3 p4 ⊢
              clear hu hv hb m2 m3 m4
              clear t1 t3 a3 a4 a5
              go_wp2_with fail
              go_meet
              exact ⟨_, _, rfl, rfl, HE.out, by omega, by omega, hu5, hv5, hb5⟩
        -- }}
      case rest =>
        clear hu4 hv4 hb4 m2 m3 m4 q3 q4 q5 q6 HQS Q9 e2 e3 e4 e5 n2 n3 n4 n5 b3 b4 b5 b6 b7 b8 b9 b10 hT0 hT1
        obtain ⟨q, r, rfl, rfl, hq, q0, q1, hu, hv, hb⟩ := hcut
        go_wp2_with fail
        go_loopw [15, 153] (fun bo i wr => ∃ (k : Nat) (b : Int) (R' : Nat → Int), k ≤ n ∧ i = .int .i64 k ∧ bo = .int .i64 b ∧ SubW R R' (wd Y) j k q b ∧
            Arr wr w.heap.size 169 .u32 (la + 1) R' ∧ Arr wr bv 169 .u32 (n + 1) (wd Y) ∧ Below w.heap.size w wr)
          (fun _ i _ => n - (intOf i).toNat)
        case atStart => exact ⟨0, 0, R, by omega, rfl, rfl, SubW.zero hinv.dig j q, hu, hv, hb⟩
        case round =>
          clear hu hv hb
          obtain ⟨k, b, R', hk, rfl, rfl, hsub, hu, hv, hb⟩ := hrel
          by_cases hlt : k < n
          · have m0 := wd_nonneg Y k
            have m1 := wd_le Y k
            have mm := mac_le (x := q) (d := wd Y k) ⟨q0, q1⟩ ⟨m0, m1⟩
            have bo0 := hsub.b0
            have bo1 := hsub.b1
            have rd := hsub.dig (k + j)
            have y1 := hv.cell (show k < n + 1 by omega)
            have y2 := hu.cell (show k + j < la + 1 by omega)
            have y3 := hu.free (k + j)
            obtain ⟨p, hp⟩ : ∃ p, q * wd Y k = p := ⟨_, rfl⟩
            rw [hp] at mm
            have a1 : IntKind.u64.wrap p = p := wraps_u64 _ mm.1 (by omega)
            have a2 : bits .and .u64 p 4294967295 = p % 4294967296 := u64_and32 p
            have a3 : (R' (k + j) - b - p) % 4294967296 = (R' (k + j) - b - p % 4294967296) % 4294967296 := by omega
            have A3 := Lib.hid a3
            clear a3
            go_wp2_with fail
            rw [A3.out]
            go_roundw
            case rel => exact ⟨k + 1, _, _, by omega, by go_num, rfl, hsub.step ⟨m0, m1⟩ ⟨q0, q1⟩ hp.symm rfl, hu.set (k + j) _, hv.other (by simp; omega) _, hb.setCell (Nat.le_refl _) _⟩
            case measure => simp [intOf]; omega
          · obtain rfl : n = k := by omega
            have hmid := WMid.start hinv hsub Y3.out (by rw [HWN.out, Int.natCast_ediv]; exact hq.out.1) (by rw [HWN.out]; exact hq.out.2)
            have bo0 := hsub.b0
            have bo1 := hsub.b1
            have rd := hsub.dig (j + n)
            have cc2 := hu.cell (show j + n < la + 1 by omega)
            have cc3 := hu.free (j + n)
            obtain ⟨t, ht⟩ : ∃ t, R' (j + n) - b = t := ⟨_, rfl⟩
            rw [ht] at hmid
            have tb : -4294967295 ≤ t ∧ t ≤ 4294967295 := by omega
            clear hsub hq HK d0 d1 d2 d3 d4 d5 d6
            have HMID := Lib.hid hmid
            clear hmid hinv
            by_cases htn : t < 0
            · have t1 : decide (t < 0) = true := decide_eq_true htn
              have hdz : ∀ m, 0 ≤ upd R' (j + n) (t % 4294967296) m ∧ upd R' (j + n) (t % 4294967296) m < 4294967296 := (HMID.out.upd (v := t % 4294967296) (by omega)).dig
              have HDZ := Lib.hid hdz
              clear hdz
              go_wp2_with fail
              go_loopw [20, 209] (fun ca i wr => ∃ (k : Nat) (c : Int) (R2 : Nat → Int), k ≤ n ∧ i = .int .i64 k ∧ ca = .int .u64 c ∧ AddW (upd R' (j + n) (t % 4294967296)) R2 (wd Y) j k c ∧
                  Arr wr w.heap.size 169 .u32 (la + 1) R2 ∧ Arr wr bv 169 .u32 (n + 1) (wd Y) ∧ Below w.heap.size w wr)
                (fun _ i _ => n - (intOf i).toNat)
              case atStart => exact ⟨0, 0, _, by omega, rfl, rfl, AddW.zero HDZ.out j, hu.set (j + n) _, hv.other (by simp; omega) _, hb.setCell (Nat.le_refl _) _⟩
              case round =>
                clear hu hv hb cc2 cc3 rd bo0 bo1 ht t1
                obtain ⟨k, c, R2, hk2, rfl, rfl, hadd, hu, hv, hb⟩ := hrel
                have g0 := hadd.c0
                have g1 := hadd.c1
                by_cases hlt2 : k < n
                · have m0 := wd_nonneg Y k
                  have m1 := wd_le Y k
                  have rd := hadd.dig (k + j)
                  have p1 := hv.cell (show k < n + 1 by omega)
                  have p2 := hu.cell (show k + j < la + 1 by omega)
                  have p3 := hu.free (k + j)
                  go_wp2_with fail
                  go_quiet (fail)
                  have hu5 : Arr (wr.drewN nq) w.heap.size 169 .u32 (la + 1) R2 := hu
                  have hv5 : Arr (wr.drewN nq) bv 169 .u32 (n + 1) (wd Y) := hv
                  have hb5 := below_drewN hb nq
                  have p5 : (wr.drewN nq).cell? ⟨w.heap.size, k + j, none⟩ = some (.int .u32 (R2 (k + j))) := p2
                  have p6 : (wr.drewN nq).frozen? ⟨w.heap.size, k + j, none⟩ = false := p3
                  generalize wr.drewN nq = w5 at hu5 hv5 hb5 p5 p6 ⊢
                  clear hu hv hb p1 p2 p3
                  go_wp2_with fail
                  go_roundw
                  case rel => exact ⟨k + 1, _, _, by omega, by go_num, rfl, by have hs := hadd.step ⟨m0, m1⟩; rw [Int.add_comm c] at hs; exact hs, hu5.set (k + j) _, hv5.other (by simp; omega) _, hb5.setCell (Nat.le_refl _) _⟩
                  case measure => simp [intOf]; omega
                · obtain rfl : n = k := by omega
                  obtain ⟨f1, f2, f3⟩ := HMID.out.fin1 Y3.out y2 (Nat.le_of_lt Y1.out) htn hadd
                  subst f1
                  have p2 := hu.cell (show j + n < la + 1 by omega)
                  have p3 := hu.free (j + n)
                  rw [f2] at p2
                  have HF := Lib.hid f3
                  clear hadd f2 f3 HMID HDZ g0 g1
                  go_wp2_with fail
                  go_roundw
                  case rel => exact ⟨j, _, _, rfl, by show _ = _; rfl, by omega, HF.out, hu.set (j + n) _, hv.other (by simp; omega) _, hb.setCell (Nat.le_refl _) _⟩
                  case measure => simp [intOf]
            · have t1 : decide (t < 0) = false := decide_eq_false htn
              have hfin := HMID.out.fin0 y2 (Nat.le_of_lt Y1.out) (by omega)
              rw [show t % 4294967296 = t from by omega] at hfin
              have HFIN := Lib.hid hfin
              clear hfin
              go_wp2_with fail
              go_roundw
              case rel => exact ⟨j, _, _, rfl, by show _ = _; rfl, by omega, HFIN.out, hu.set (j + n) _, hv.other (by simp; omega) _, hb.setCell (Nat.le_refl _) _⟩
              case measure => simp [intOf]
      -- }}
end Go.Proofs.YtdlbnioidfhhcaaGreat
