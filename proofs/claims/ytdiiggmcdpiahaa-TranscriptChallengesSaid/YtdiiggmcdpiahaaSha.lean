/- SHA-256's words: the rotations. -/
import Derived.Test.YtdiiggmcdpiahaaBits
import Derived.Test.YtdiiggmcdpiahaaArr
import Derived.BigQuiet
namespace Go.Proofs.Ytdiiggmcdpiahaa
open Go.RowKit Num
set_option maxRecDepth 20000

/-- a word turned to the right: p = 2 ^ k, q = 2 ^ (32 - k) -/
def rr (x p q : Int) : Int := bits .or .u32 (x * q % 4294967296) (x / p)
theorem or_comm32 (x y : Int) : bits .or .u32 x y = bits .or .u32 y x := by simp only [bits, BitVec.or_comm]
theorem rotl_2 (x : Int) (w : World) :
    Calls Try.prog 97 #[.int .u32 x, .int .i64 (-2)] w fun e w' => e = .returned (.int .u32 (rr x 4 1073741824)) ∧ w' = w := by
  have e : bits .and .u64 (IntKind.u64.wrap (-2)) 31 = 30 := by decide
  go_enter Try.func97, Try.ntmps97
  go_wp2
  go_ret
  exact ⟨rfl, rfl⟩
theorem turn_2 (x : Int) (w : World) :
    Calls Try.prog 91 #[.int .u32 x, .int .i64 2] w fun e w' => e = .returned (.int .u32 (rr x 4 1073741824)) ∧ w' = w := by
  have hc := fun w => rotl_2 x w
  go_enter Try.func91, Try.ntmps91
  go_wp2_with (go_at_call 97; refine (hc _).mono ?_; rintro e w' ⟨rfl, rfl⟩)
  go_ret
  exact ⟨rfl, rfl⟩
theorem right_2 (x : Int) (w : World) :
    Calls Try.prog 64 #[.int .u32 x, .int .i64 2] w fun e w' => e = .returned (.int .u32 (rr x 4 1073741824)) ∧ ∃ n, w' = w.drewN n := by
  rw [show rr x 4 1073741824 = bits .or .u32 (x / 4) (x * 1073741824 % 4294967296) from or_comm32 _ _]
  go_enter Try.func64, Try.ntmps64
  go_wp2
  go_quiet (fail)
  go_wp2
  go_ret
  exact ⟨rfl, _, rfl⟩
theorem rotl_6 (x : Int) (w : World) :
    Calls Try.prog 97 #[.int .u32 x, .int .i64 (-6)] w fun e w' => e = .returned (.int .u32 (rr x 64 67108864)) ∧ w' = w := by
  have e : bits .and .u64 (IntKind.u64.wrap (-6)) 31 = 26 := by decide
  go_enter Try.func97, Try.ntmps97
  go_wp2
  go_ret
  exact ⟨rfl, rfl⟩
theorem turn_6 (x : Int) (w : World) :
    Calls Try.prog 91 #[.int .u32 x, .int .i64 6] w fun e w' => e = .returned (.int .u32 (rr x 64 67108864)) ∧ w' = w := by
  have hc := fun w => rotl_6 x w
  go_enter Try.func91, Try.ntmps91
  go_wp2_with (go_at_call 97; refine (hc _).mono ?_; rintro e w' ⟨rfl, rfl⟩)
  go_ret
  exact ⟨rfl, rfl⟩
theorem right_6 (x : Int) (w : World) :
    Calls Try.prog 64 #[.int .u32 x, .int .i64 6] w fun e w' => e = .returned (.int .u32 (rr x 64 67108864)) ∧ ∃ n, w' = w.drewN n := by
  rw [show rr x 64 67108864 = bits .or .u32 (x / 64) (x * 67108864 % 4294967296) from or_comm32 _ _]
  go_enter Try.func64, Try.ntmps64
  go_wp2
  go_quiet (fail)
  go_wp2
  go_ret
  exact ⟨rfl, _, rfl⟩
theorem rotl_7 (x : Int) (w : World) :
    Calls Try.prog 97 #[.int .u32 x, .int .i64 (-7)] w fun e w' => e = .returned (.int .u32 (rr x 128 33554432)) ∧ w' = w := by
  have e : bits .and .u64 (IntKind.u64.wrap (-7)) 31 = 25 := by decide
  go_enter Try.func97, Try.ntmps97
  go_wp2
  go_ret
  exact ⟨rfl, rfl⟩
theorem turn_7 (x : Int) (w : World) :
    Calls Try.prog 91 #[.int .u32 x, .int .i64 7] w fun e w' => e = .returned (.int .u32 (rr x 128 33554432)) ∧ w' = w := by
  have hc := fun w => rotl_7 x w
  go_enter Try.func91, Try.ntmps91
  go_wp2_with (go_at_call 97; refine (hc _).mono ?_; rintro e w' ⟨rfl, rfl⟩)
  go_ret
  exact ⟨rfl, rfl⟩
theorem right_7 (x : Int) (w : World) :
    Calls Try.prog 64 #[.int .u32 x, .int .i64 7] w fun e w' => e = .returned (.int .u32 (rr x 128 33554432)) ∧ ∃ n, w' = w.drewN n := by
  rw [show rr x 128 33554432 = bits .or .u32 (x / 128) (x * 33554432 % 4294967296) from or_comm32 _ _]
  go_enter Try.func64, Try.ntmps64
  go_wp2
  go_quiet (fail)
  go_wp2
  go_ret
  exact ⟨rfl, _, rfl⟩
theorem rotl_11 (x : Int) (w : World) :
    Calls Try.prog 97 #[.int .u32 x, .int .i64 (-11)] w fun e w' => e = .returned (.int .u32 (rr x 2048 2097152)) ∧ w' = w := by
  have e : bits .and .u64 (IntKind.u64.wrap (-11)) 31 = 21 := by decide
  go_enter Try.func97, Try.ntmps97
  go_wp2
  go_ret
  exact ⟨rfl, rfl⟩
theorem turn_11 (x : Int) (w : World) :
    Calls Try.prog 91 #[.int .u32 x, .int .i64 11] w fun e w' => e = .returned (.int .u32 (rr x 2048 2097152)) ∧ w' = w := by
  have hc := fun w => rotl_11 x w
  go_enter Try.func91, Try.ntmps91
  go_wp2_with (go_at_call 97; refine (hc _).mono ?_; rintro e w' ⟨rfl, rfl⟩)
  go_ret
  exact ⟨rfl, rfl⟩
theorem right_11 (x : Int) (w : World) :
    Calls Try.prog 64 #[.int .u32 x, .int .i64 11] w fun e w' => e = .returned (.int .u32 (rr x 2048 2097152)) ∧ ∃ n, w' = w.drewN n := by
  rw [show rr x 2048 2097152 = bits .or .u32 (x / 2048) (x * 2097152 % 4294967296) from or_comm32 _ _]
  go_enter Try.func64, Try.ntmps64
  go_wp2
  go_quiet (fail)
  go_wp2
  go_ret
  exact ⟨rfl, _, rfl⟩
theorem rotl_13 (x : Int) (w : World) :
    Calls Try.prog 97 #[.int .u32 x, .int .i64 (-13)] w fun e w' => e = .returned (.int .u32 (rr x 8192 524288)) ∧ w' = w := by
  have e : bits .and .u64 (IntKind.u64.wrap (-13)) 31 = 19 := by decide
  go_enter Try.func97, Try.ntmps97
  go_wp2
  go_ret
  exact ⟨rfl, rfl⟩
theorem turn_13 (x : Int) (w : World) :
    Calls Try.prog 91 #[.int .u32 x, .int .i64 13] w fun e w' => e = .returned (.int .u32 (rr x 8192 524288)) ∧ w' = w := by
  have hc := fun w => rotl_13 x w
  go_enter Try.func91, Try.ntmps91
  go_wp2_with (go_at_call 97; refine (hc _).mono ?_; rintro e w' ⟨rfl, rfl⟩)
  go_ret
  exact ⟨rfl, rfl⟩
theorem right_13 (x : Int) (w : World) :
    Calls Try.prog 64 #[.int .u32 x, .int .i64 13] w fun e w' => e = .returned (.int .u32 (rr x 8192 524288)) ∧ ∃ n, w' = w.drewN n := by
  rw [show rr x 8192 524288 = bits .or .u32 (x / 8192) (x * 524288 % 4294967296) from or_comm32 _ _]
  go_enter Try.func64, Try.ntmps64
  go_wp2
  go_quiet (fail)
  go_wp2
  go_ret
  exact ⟨rfl, _, rfl⟩
theorem rotl_17 (x : Int) (w : World) :
    Calls Try.prog 97 #[.int .u32 x, .int .i64 (-17)] w fun e w' => e = .returned (.int .u32 (rr x 131072 32768)) ∧ w' = w := by
  have e : bits .and .u64 (IntKind.u64.wrap (-17)) 31 = 15 := by decide
  go_enter Try.func97, Try.ntmps97
  go_wp2
  go_ret
  exact ⟨rfl, rfl⟩
theorem turn_17 (x : Int) (w : World) :
    Calls Try.prog 91 #[.int .u32 x, .int .i64 17] w fun e w' => e = .returned (.int .u32 (rr x 131072 32768)) ∧ w' = w := by
  have hc := fun w => rotl_17 x w
  go_enter Try.func91, Try.ntmps91
  go_wp2_with (go_at_call 97; refine (hc _).mono ?_; rintro e w' ⟨rfl, rfl⟩)
  go_ret
  exact ⟨rfl, rfl⟩
theorem right_17 (x : Int) (w : World) :
    Calls Try.prog 64 #[.int .u32 x, .int .i64 17] w fun e w' => e = .returned (.int .u32 (rr x 131072 32768)) ∧ ∃ n, w' = w.drewN n := by
  rw [show rr x 131072 32768 = bits .or .u32 (x / 131072) (x * 32768 % 4294967296) from or_comm32 _ _]
  go_enter Try.func64, Try.ntmps64
  go_wp2
  go_quiet (fail)
  go_wp2
  go_ret
  exact ⟨rfl, _, rfl⟩
theorem rotl_18 (x : Int) (w : World) :
    Calls Try.prog 97 #[.int .u32 x, .int .i64 (-18)] w fun e w' => e = .returned (.int .u32 (rr x 262144 16384)) ∧ w' = w := by
  have e : bits .and .u64 (IntKind.u64.wrap (-18)) 31 = 14 := by decide
  go_enter Try.func97, Try.ntmps97
  go_wp2
  go_ret
  exact ⟨rfl, rfl⟩
theorem turn_18 (x : Int) (w : World) :
    Calls Try.prog 91 #[.int .u32 x, .int .i64 18] w fun e w' => e = .returned (.int .u32 (rr x 262144 16384)) ∧ w' = w := by
  have hc := fun w => rotl_18 x w
  go_enter Try.func91, Try.ntmps91
  go_wp2_with (go_at_call 97; refine (hc _).mono ?_; rintro e w' ⟨rfl, rfl⟩)
  go_ret
  exact ⟨rfl, rfl⟩
theorem right_18 (x : Int) (w : World) :
    Calls Try.prog 64 #[.int .u32 x, .int .i64 18] w fun e w' => e = .returned (.int .u32 (rr x 262144 16384)) ∧ ∃ n, w' = w.drewN n := by
  rw [show rr x 262144 16384 = bits .or .u32 (x / 262144) (x * 16384 % 4294967296) from or_comm32 _ _]
  go_enter Try.func64, Try.ntmps64
  go_wp2
  go_quiet (fail)
  go_wp2
  go_ret
  exact ⟨rfl, _, rfl⟩
theorem rotl_19 (x : Int) (w : World) :
    Calls Try.prog 97 #[.int .u32 x, .int .i64 (-19)] w fun e w' => e = .returned (.int .u32 (rr x 524288 8192)) ∧ w' = w := by
  have e : bits .and .u64 (IntKind.u64.wrap (-19)) 31 = 13 := by decide
  go_enter Try.func97, Try.ntmps97
  go_wp2
  go_ret
  exact ⟨rfl, rfl⟩
theorem turn_19 (x : Int) (w : World) :
    Calls Try.prog 91 #[.int .u32 x, .int .i64 19] w fun e w' => e = .returned (.int .u32 (rr x 524288 8192)) ∧ w' = w := by
  have hc := fun w => rotl_19 x w
  go_enter Try.func91, Try.ntmps91
  go_wp2_with (go_at_call 97; refine (hc _).mono ?_; rintro e w' ⟨rfl, rfl⟩)
  go_ret
  exact ⟨rfl, rfl⟩
theorem right_19 (x : Int) (w : World) :
    Calls Try.prog 64 #[.int .u32 x, .int .i64 19] w fun e w' => e = .returned (.int .u32 (rr x 524288 8192)) ∧ ∃ n, w' = w.drewN n := by
  rw [show rr x 524288 8192 = bits .or .u32 (x / 524288) (x * 8192 % 4294967296) from or_comm32 _ _]
  go_enter Try.func64, Try.ntmps64
  go_wp2
  go_quiet (fail)
  go_wp2
  go_ret
  exact ⟨rfl, _, rfl⟩
theorem rotl_22 (x : Int) (w : World) :
    Calls Try.prog 97 #[.int .u32 x, .int .i64 (-22)] w fun e w' => e = .returned (.int .u32 (rr x 4194304 1024)) ∧ w' = w := by
  have e : bits .and .u64 (IntKind.u64.wrap (-22)) 31 = 10 := by decide
  go_enter Try.func97, Try.ntmps97
  go_wp2
  go_ret
  exact ⟨rfl, rfl⟩
theorem turn_22 (x : Int) (w : World) :
    Calls Try.prog 91 #[.int .u32 x, .int .i64 22] w fun e w' => e = .returned (.int .u32 (rr x 4194304 1024)) ∧ w' = w := by
  have hc := fun w => rotl_22 x w
  go_enter Try.func91, Try.ntmps91
  go_wp2_with (go_at_call 97; refine (hc _).mono ?_; rintro e w' ⟨rfl, rfl⟩)
  go_ret
  exact ⟨rfl, rfl⟩
theorem right_22 (x : Int) (w : World) :
    Calls Try.prog 64 #[.int .u32 x, .int .i64 22] w fun e w' => e = .returned (.int .u32 (rr x 4194304 1024)) ∧ ∃ n, w' = w.drewN n := by
  rw [show rr x 4194304 1024 = bits .or .u32 (x / 4194304) (x * 1024 % 4294967296) from or_comm32 _ _]
  go_enter Try.func64, Try.ntmps64
  go_wp2
  go_quiet (fail)
  go_wp2
  go_ret
  exact ⟨rfl, _, rfl⟩
theorem rotl_25 (x : Int) (w : World) :
    Calls Try.prog 97 #[.int .u32 x, .int .i64 (-25)] w fun e w' => e = .returned (.int .u32 (rr x 33554432 128)) ∧ w' = w := by
  have e : bits .and .u64 (IntKind.u64.wrap (-25)) 31 = 7 := by decide
  go_enter Try.func97, Try.ntmps97
  go_wp2
  go_ret
  exact ⟨rfl, rfl⟩
theorem turn_25 (x : Int) (w : World) :
    Calls Try.prog 91 #[.int .u32 x, .int .i64 25] w fun e w' => e = .returned (.int .u32 (rr x 33554432 128)) ∧ w' = w := by
  have hc := fun w => rotl_25 x w
  go_enter Try.func91, Try.ntmps91
  go_wp2_with (go_at_call 97; refine (hc _).mono ?_; rintro e w' ⟨rfl, rfl⟩)
  go_ret
  exact ⟨rfl, rfl⟩
theorem right_25 (x : Int) (w : World) :
    Calls Try.prog 64 #[.int .u32 x, .int .i64 25] w fun e w' => e = .returned (.int .u32 (rr x 33554432 128)) ∧ ∃ n, w' = w.drewN n := by
  rw [show rr x 33554432 128 = bits .or .u32 (x / 33554432) (x * 128 % 4294967296) from or_comm32 _ _]
  go_enter Try.func64, Try.ntmps64
  go_wp2
  go_quiet (fail)
  go_wp2
  go_ret
  exact ⟨rfl, _, rfl⟩
end Go.Proofs.Ytdiiggmcdpiahaa
