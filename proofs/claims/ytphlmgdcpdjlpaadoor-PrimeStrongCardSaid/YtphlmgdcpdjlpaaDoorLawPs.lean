/- dominolaw04: the walk of PrimeStrong. -/
import Derived.Test.YtphlmgdcpdjlpaaDoorLawPr
namespace Go.Proofs.YtphlmgdcpdjlpaaDoor
open Go.RowKit Num
set_option maxRecDepth 20000
set_option linter.unusedVariables false
set_option maxHeartbeats 4000000 in
theorem primestrong_walk (s t : ByteArray) (w : World) (hT : Tab w) :
    Calls Tryd.prog 5 #[.string s, .string t] w fun e w' => e = .returned (.bool true) ∧ Below w.heap.size w w' := by
  by_cases h : s.size ≤ 8
  · have d1 : decide ((8 : Int) < (s.size : Int)) = false := decide_eq_false (by omega)
    by_cases h2 : t.size ≤ 200
    · have d2 : decide ((200 : Int) < (t.size : Int)) = false := decide_eq_false (by omega)
      go_enter Tryd.func5, Tryd.ntmps5
      go_wp2_with fail
      refine (prStrong_any _ _ _).mono ?_
      rintro e w1 ⟨rfl, b1⟩
      go_wp2_with fail
      refine (refStrong_any _ _ _ (by omega) (by omega)).mono ?_
      rintro e w2 ⟨rfl, b2⟩
      replace b2 := b1.trans (b2.mono b1.size)
      have hT2 := hT.below b2
      go_wp2_with fail
      refine (awakeP _ hT2).mono ?_
      rintro e w3 ⟨rfl, b3⟩
      replace b3 := b2.trans (b3.mono b2.size)
      go_wp2_with fail
      go_ret
      exact ⟨rfl, b3⟩
    · have d2 : decide ((200 : Int) < (t.size : Int)) = true := decide_eq_true (by omega)
      go_enter Tryd.func5, Tryd.ntmps5
      go_wp2_with fail
      refine (awakeP _ hT).mono ?_
      rintro e w1 ⟨rfl, b1⟩
      go_wp2_with fail
      go_ret
      exact ⟨rfl, b1⟩
  · have d1 : decide ((8 : Int) < (s.size : Int)) = true := decide_eq_true (by omega)
    go_enter Tryd.func5, Tryd.ntmps5
    go_wp2_with fail
    refine (awakeP _ hT).mono ?_
    rintro e w1 ⟨rfl, b1⟩
    go_wp2_with fail
    go_ret
    exact ⟨rfl, b1⟩
end Go.Proofs.YtphlmgdcpdjlpaaDoor
