/- dominolaw04: the walks of PrimeTests, PrimeNexts, PrimeSafes. -/
import Derived.Test.YtphlmgdcpdjlpaaDoorLawPr
namespace Go.Proofs.YtphlmgdcpdjlpaaDoor
open Go.RowKit Num
set_option maxRecDepth 20000
set_option linter.unusedVariables false
set_option maxHeartbeats 4000000 in
theorem primetests_walk (s : ByteArray) (w : World) (hT : Tab w) :
    Calls Tryd.prog 3 #[.string s] w fun e w' => e = .returned (.bool true) ∧ Below w.heap.size w w' := by
  by_cases h : s.size ≤ 200
  · have d1 : decide ((200 : Int) < (s.size : Int)) = false := decide_eq_false (by omega)
    go_enter Tryd.func3, Tryd.ntmps3
    go_wp2_with fail
    refine (prIs_any _ _ hT).mono ?_
    rintro e w1 ⟨rfl, b1⟩
    go_wp2_with fail
    refine (refIs_any _ _ (by omega)).mono ?_
    rintro e w2 ⟨rfl, b2⟩
    replace b2 := b1.trans (b2.mono b1.size)
    have hT2 := hT.below b2
    go_wp2_with fail
    refine (awakeP _ hT2).mono ?_
    rintro e w3 ⟨rfl, b3⟩
    replace b3 := b2.trans (b3.mono b2.size)
    go_wp2_with fail
    go_ret
    exact ⟨rfl, b3⟩
  · have d1 : decide ((200 : Int) < (s.size : Int)) = true := decide_eq_true (by omega)
    go_enter Tryd.func3, Tryd.ntmps3
    go_wp2_with fail
    refine (awakeP _ hT).mono ?_
    rintro e w1 ⟨rfl, b1⟩
    go_wp2_with fail
    go_ret
    exact ⟨rfl, b1⟩
set_option maxHeartbeats 4000000 in
theorem primenexts_walk (s : ByteArray) (w : World) (hT : Tab w) :
    Calls Tryd.prog 7 #[.string s] w fun e w' => e = .returned (.bool true) ∧ Below w.heap.size w w' := by
  by_cases h : s.size ≤ 200
  · have d1 : decide ((200 : Int) < (s.size : Int)) = false := decide_eq_false (by omega)
    go_enter Tryd.func7, Tryd.ntmps7
    go_wp2_with fail
    refine (prNext_any _ _ hT).mono ?_
    rintro e w1 ⟨rfl, b1⟩
    go_wp2_with fail
    refine (refNext_any _ _ (by omega)).mono ?_
    rintro e w2 ⟨rfl, b2⟩
    replace b2 := b1.trans (b2.mono b1.size)
    have hT2 := hT.below b2
    go_wp2_with fail
    refine (awakeP _ hT2).mono ?_
    rintro e w3 ⟨rfl, b3⟩
    replace b3 := b2.trans (b3.mono b2.size)
    go_wp2_with fail
    go_ret
    exact ⟨rfl, b3⟩
  · have d1 : decide ((200 : Int) < (s.size : Int)) = true := decide_eq_true (by omega)
    go_enter Tryd.func7, Tryd.ntmps7
    go_wp2_with fail
    refine (awakeP _ hT).mono ?_
    rintro e w1 ⟨rfl, b1⟩
    go_wp2_with fail
    go_ret
    exact ⟨rfl, b1⟩
set_option maxHeartbeats 4000000 in
theorem primesafes_walk (s : ByteArray) (w : World) (hT : Tab w) :
    Calls Tryd.prog 9 #[.string s] w fun e w' => e = .returned (.bool true) ∧ Below w.heap.size w w' := by
  by_cases h : s.size ≤ 200
  · have d1 : decide ((200 : Int) < (s.size : Int)) = false := decide_eq_false (by omega)
    go_enter Tryd.func9, Tryd.ntmps9
    go_wp2_with fail
    refine (prSafe_any _ _ hT).mono ?_
    rintro e w1 ⟨rfl, b1⟩
    go_wp2_with fail
    refine (refSafe_any _ _ (by omega)).mono ?_
    rintro e w2 ⟨rfl, b2⟩
    replace b2 := b1.trans (b2.mono b1.size)
    have hT2 := hT.below b2
    go_wp2_with fail
    refine (awakeP _ hT2).mono ?_
    rintro e w3 ⟨rfl, b3⟩
    replace b3 := b2.trans (b3.mono b2.size)
    go_wp2_with fail
    go_ret
    exact ⟨rfl, b3⟩
  · have d1 : decide ((200 : Int) < (s.size : Int)) = true := decide_eq_true (by omega)
    go_enter Tryd.func9, Tryd.ntmps9
    go_wp2_with fail
    refine (awakeP _ hT).mono ?_
    rintro e w1 ⟨rfl, b1⟩
    go_wp2_with fail
    go_ret
    exact ⟨rfl, b1⟩
end Go.Proofs.YtphlmgdcpdjlpaaDoor
