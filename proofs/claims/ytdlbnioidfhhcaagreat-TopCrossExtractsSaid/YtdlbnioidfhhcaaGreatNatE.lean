/- Contracts of the package natural: divided. -/
import Derived.Test.YtdlbnioidfhhcaaGreatNatC
import Derived.Test.YtdlbnioidfhhcaaGreatDiv
import Derived.Test.YtdlbnioidfhhcaaGreatLen
import Derived.Test.YtdlbnioidfhhcaaGreatBitLen
import Derived.Deep.RegionWith
import Derived.Deep.DeepCutAuto
import Derived.Deep.QuietTactic
import Derived.BigQuiet
namespace Go.Proofs.YtdlbnioidfhhcaaGreat
open Go.RowKit Num
set_option maxRecDepth 20000

theorem divided_less (s t : ByteArray) (a b : Nat) (w : World) (hs : IsN s a) (ht : IsN t b) (h : a < b) :
    Calls Tryz.prog 84 #[.string s, .string t] w fun e w' => e = .returned (.tuple #[.string (enc (a / b)), .string (enc (a % b))]) ∧ Below w.heap.size w w' := by
  have e1 : enc (a / b) = ⟨#[]⟩ := by rw [Nat.div_eq_of_lt h]; rfl
  have e2 : enc (a % b) = s := by rw [Nat.mod_eq_of_lt h, hs.eq]
  rw [e1, e2]
  clear e1 e2
  have HS := Lib.hid hs.eq; clear hs
  have HT := Lib.hid ht.eq; clear ht
  have hc := (ncmp_lt a b).2 h
  go_enter Tryz.func84, Tryz.ntmps84
  go_wp2_with (go_at_call 67; refine (compare_any _ _ _ _ _ HS.out HT.out).mono ?_; rintro e w' ⟨rfl, rfl⟩)
  go_ret2
  exact ⟨rfl, Below.refl _ _⟩

def encI (x : Int) : ByteArray := enc x.toNat
theorem Of_int (x : Int) (w : World) (h0 : 0 ≤ x) (h : x < 18446744073709551616) :
    Calls Tryz.prog 38 #[.int .u64 x] w fun e w' => e = .returned (.string (encI x)) ∧ Below w.heap.size w w' := by
  obtain ⟨n, rfl⟩ := Int.eq_ofNat_of_zero_le h0
  exact Of_any n w (by omega)
theorem wrapu_nonneg (x : Int) : 0 ≤ IntKind.u64.wrap x := by rw [IntKind.wrap_u64]; omega
theorem wrapu_lt (x : Int) : IntKind.u64.wrap x < 18446744073709551616 := by rw [IntKind.wrap_u64]; omega
theorem tmod_nonneg (a b : Nat) : 0 ≤ (a : Int).tmod b := by rw [Int.tmod_eq_emod_of_nonneg (by omega), ← Int.natCast_emod]; exact Int.natCast_nonneg _
theorem tmod_lt (a b : Nat) (h0 : 0 < b) (h : b < 18446744073709551616) : (a : Int).tmod b < 18446744073709551616 := by
  rw [Int.tmod_eq_emod_of_nonneg (by omega), ← Int.natCast_emod]; have := Nat.mod_lt a h0; omega
theorem encI_quo (a b : Nat) (h : a / b < 18446744073709551616) : encI (IntKind.u64.wrap ((a : Int) / b)) = enc (a / b) := by
  unfold encI
  rw [← Int.natCast_ediv, wraps_u64 _ (Int.natCast_nonneg _) (by omega)]; rfl
theorem encI_mod (a b : Nat) : encI ((a : Int).tmod b) = enc (a % b) := by
  unfold encI
  rw [Int.tmod_eq_emod_of_nonneg (by omega), ← Int.natCast_emod]; rfl
theorem Of_quo (a b : Nat) (w : World) (h : a / b < 18446744073709551616) :
    Calls Tryz.prog 38 #[.int .u64 (IntKind.u64.wrap ((a : Int) / (b : Int)))] w fun e w' => e = .returned (.string (enc (a / b))) ∧ Below w.heap.size w w' := by
  have := Of_int (IntKind.u64.wrap ((a : Int) / (b : Int))) w (wrapu_nonneg _) (wrapu_lt _)
  rw [encI_quo a b h] at this; exact this
theorem Of_tmod (a b : Nat) (w : World) (h0 : 0 < b) (h : b < 18446744073709551616) :
    Calls Tryz.prog 38 #[.int .u64 ((a : Int).tmod (b : Int))] w fun e w' => e = .returned (.string (enc (a % b))) ∧ Below w.heap.size w w' := by
  have := Of_int ((a : Int).tmod (b : Int)) w (tmod_nonneg a b) (tmod_lt a b h0 h)
  rw [encI_mod a b] at this; exact this
theorem Of_mod (a b : Nat) (w : World) (h0 : 0 < b) (h : b < 18446744073709551616) :
    Calls Tryz.prog 38 #[.int .u64 ((a : Int) % (b : Int))] w fun e w' => e = .returned (.string (enc (a % b))) ∧ Below w.heap.size w w' := by
  rw [← Int.tmod_eq_emod_of_nonneg (by omega)]; exact Of_tmod a b w h0 h
set_option maxHeartbeats 800000 in
theorem divided_short (s t : ByteArray) (a b : Nat) (w : World) (hs : IsN s a) (ht : IsN t b) (h : b ≤ a) (h0 : 0 < b) (h8 : s.size ≤ 8) :
    Calls Tryz.prog 84 #[.string s, .string t] w fun e w' => e = .returned (.tuple #[.string (enc (a / b)), .string (enc (a % b))]) ∧ Below w.heap.size w w' := by
  have t8 : blen b ≤ 8 := by have := blen_mono h; rw [← hs.size] at this; omega
  have a8 : blen a ≤ 8 := by rw [← hs.size]; exact h8
  have ha : a < 18446744073709551616 := by have := (blen_le_iff a 8).1 a8; omega
  have hb : b < 18446744073709551616 := by omega
  have hd : a / b < 18446744073709551616 := Nat.lt_of_le_of_lt (Nat.div_le_self a b) ha
  have hm : a % b < 18446744073709551616 := Nat.lt_trans (Nat.mod_lt a h0) hb
  have SA := Lib.hid (sm_short a8)
  have SB := Lib.hid (sm_short t8)
  have HD := Lib.hid hd; clear hd
  have HM := Lib.hid hm; clear hm
  clear a8 t8
  have HS := Lib.hid hs; clear hs
  have HT := Lib.hid ht; clear ht
  have hc := (ncmp_ge a b).2 h
  go_enter Tryz.func84, Tryz.ntmps84
  go_wp2_with fail
  refine (compare_any _ _ _ _ _ HS.out.eq HT.out.eq).mono ?_; rintro e w' ⟨rfl, rfl⟩
  go_wp2_with fail
  refine (Small_any _ _ _ HS.out).mono ?_; rintro e w' ⟨rfl, rfl⟩
  go_wp2_with fail
  refine (Small_any _ _ _ HT.out).mono ?_; rintro e w' ⟨rfl, rfl⟩
  rw [SA.out, SB.out]
  go_wp2_with fail
  have nz : ((b : Int) == 0) = false := by rw [beq_eq_false_iff_ne]; omega
  have nz2 : ¬ ((b : Int) = 0) := by omega
  go_region_with (first | (go_at_call 38; (with_reducible refine (Of_quo _ _ _ HD.out).mono ?_); rintro e w' ⟨rfl, hw1⟩) | (go_at_call 38; (with_reducible refine (Of_tmod _ _ _ h0 hb).mono ?_); rintro e w' ⟨rfl, hw2⟩) | (go_at_call 38; (with_reducible refine (Of_mod _ _ _ h0 hb).mono ?_); rintro e w' ⟨rfl, hw2⟩))
  all_goals
    go_wp2_with fail
    go_ret2
    exact ⟨rfl, ((Below.refl w.heap.size w).drew.trans hw1).trans (hw2.mono hw1.size)⟩
end Go.Proofs.YtdlbnioidfhhcaaGreat
