/- dominolaw04: the walk of PrimeFactors. -/
import Derived.Test.YtphlmgdcpdjlpaaDoorLawPr
namespace Go.Proofs.YtphlmgdcpdjlpaaDoor
open Go.RowKit Num
set_option maxRecDepth 20000
set_option linter.unusedVariables false
theorem facs_any (s : ByteArray) (hs : s.size ≤ 1000000) : ∃ (L : List ByteArray) (k : Int), L.length ≤ 1000000 ∧
    (∀ w, Calls Tryd.prog 24 #[.string s] w fun e w' => (∃ v, e = .returned (.tuple #[v, .int .i64 k]) ∧ SL w' v L) ∧ Below w.heap.size w w') ∧
    (∀ w, Calls Tryd.prog 25 #[.string s] w fun e w' => (∃ v, e = .returned (.tuple #[v, .int .i64 k]) ∧ SL w' v L) ∧ Below w.heap.size w w') := by
  have nil : ∀ (k : Int) (e : Ending) (w w' : World), e = .returned (.tuple #[.slice none 0 0, .int .i64 k]) ∧ Below w.heap.size w w' → (∃ v, e = .returned (.tuple #[v, .int .i64 k]) ∧ SL w' v []) ∧ Below w.heap.size w w' :=
    fun k e w w' h => ⟨⟨_, h.1, .inl ⟨rfl, rfl⟩⟩, h.2⟩
  rcases cls s with ⟨h1, _, _⟩ | ⟨h1, h8, _, _⟩ | ⟨h1, h8, hlt, _, _⟩
  · exact ⟨[], 3, by simp, fun w => (prFactors_bad s w h1).mono fun e w' h => nil _ _ _ _ h, fun w => (refFactors_bad s w h1).mono fun e w' h => nil _ _ _ _ h⟩
  · exact ⟨[], 5, by simp, fun w => (prFactors_long s w h1 h8).mono fun e w' h => nil _ _ _ _ h, fun w => (refFactors_long s w h1 hs (.inl h8) (fun h => by omega)).mono fun e w' h => nil _ _ _ _ h⟩
  · rcases Nat.eq_zero_or_pos (nv s) with h0 | h0
    · exact ⟨[], 11, by simp, fun w => (prFactors_zero s w h1 h8 h0).mono fun e w' h => nil _ _ _ _ h, fun w => (refFactors_zero s w h1 h0).mono fun e w' h => nil _ _ _ _ h⟩
    · rcases Nat.lt_or_ge (nv s) 1099511627776 with hb | hb
      · obtain ⟨l, hl⟩ := fac_all (nv s) h0
        have hlen := hl.len h0 (by omega)
        refine ⟨l.map enc, 0, ?_, fun w => prFactors_ok s l w h1 h8 h0 hb hl, fun w => refFactors_ok s l w h1 h8 h0 hb hl⟩
        rw [List.length_map]
        rcases Nat.lt_or_ge 40 l.length with h | h
        · have h1 : 2 ^ 41 ≤ 2 ^ l.length := Nat.pow_le_pow_right (by omega) h
          omega
        · omega
      · exact ⟨[], 5, by simp, fun w => (prFactors_big s w h1 h8 hb).mono fun e w' h => nil _ _ _ _ h, fun w => (refFactors_long s w h1.valid hs (.inr hb) (fun _ => hlt)).mono fun e w' h => nil _ _ _ _ h⟩
set_option maxHeartbeats 4000000 in
theorem primefactors_walk (s : ByteArray) (w : World) (hT : Tab w) :
    Calls Tryd.prog 10 #[.string s] w fun e w' => e = .returned (.bool true) ∧ Below w.heap.size w w' := by
  by_cases h : s.size ≤ 200
  · have d1 : decide ((200 : Int) < (s.size : Int)) = false := decide_eq_false (by omega)
    obtain ⟨L, k, hL, f1, f2⟩ := facs_any s (by omega)
    have F1 := Lib.hid f1
    have F2 := Lib.hid f2
    clear f1 f2
    go_enter Tryd.func10, Tryd.ntmps10
    go_wp2_with fail
    refine (F1.out _).mono ?_
    rintro e w1 ⟨⟨v1, rfl, s1⟩, b1⟩
    go_wp2_with fail
    refine (F2.out _).mono ?_
    rintro e w2 ⟨⟨v2, rfl, s2⟩, b2⟩
    replace s1 := s1.below b2
    replace b2 := b1.trans (b2.mono b1.size)
    go_wp2_with fail
    refine (eqN_same _ _ _ _ s1 s2 hL).mono ?_
    rintro e w3 ⟨rfl, b3⟩
    replace b3 := b2.trans (b3.mono b2.size)
    have hT3 := hT.below b3
    go_wp2_with fail
    refine (awakeP _ hT3).mono ?_
    rintro e w4 ⟨rfl, b4⟩
    replace b4 := b3.trans (b4.mono b3.size)
    go_wp2_with fail
    go_ret
    exact ⟨rfl, b4⟩
  · have d1 : decide ((200 : Int) < (s.size : Int)) = true := decide_eq_true (by omega)
    go_enter Tryd.func10, Tryd.ntmps10
    go_wp2_with fail
    refine (awakeP _ hT).mono ?_
    rintro e w1 ⟨rfl, b1⟩
    go_wp2_with fail
    go_ret
    exact ⟨rfl, b1⟩
end Go.Proofs.YtphlmgdcpdjlpaaDoor
