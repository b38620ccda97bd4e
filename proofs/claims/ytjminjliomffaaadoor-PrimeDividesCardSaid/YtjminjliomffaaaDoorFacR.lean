/- The reference's trial division: dominoref04.FactorsU, Factors. -/
import Derived.Test.YtjminjliomffaaaDoorFacP
namespace Go.Proofs.YtjminjliomffaaaDoor
open Go.RowKit Go.Shelf Num
set_option maxRecDepth 20000
set_option linter.unusedVariables false
theorem Below.drewN (B : Nat) (w : World) (n : Nat) : Below B w (w.drewN n) := ⟨rfl, rfl, rfl, Nat.le_refl _, fun _ _ => rfl⟩
theorem SL.form {W : World} {v : Value} {L : List ByteArray} (h : SL W v L) : ∃ a c, v = .slice a L.length c ∧ Hid (∀ k (hk : k < L.length), ∃ b, a = some ⟨b, 0, none⟩ ∧ b < W.heap.size ∧ W.cell? ⟨b, k, none⟩ = some (.string L[k])) := by
  rcases h with ⟨rfl, rfl⟩ | ⟨b, c, rfl, h2, h3, h4⟩
  · exact ⟨none, 0, rfl, fun k hk => by simp at hk⟩
  · exact ⟨_, c, rfl, fun k hk => ⟨b, rfl, h3, h4 k hk⟩⟩
set_option maxHeartbeats 1000000 in
theorem eqN_same (u v : Value) (L : List ByteArray) (w : World) (hu : SL w u L) (hv : SL w v L) (hL : L.length ≤ 1000000) :
    Calls Tryd.prog 25 #[u, v] w fun e w' => e = .returned (.bool true) ∧ Below w.heap.size w w' := by
  obtain ⟨a1, c1, rfl, H1⟩ := hu.form
  obtain ⟨a2, c2, rfl, H2⟩ := hv.form
  obtain ⟨n, hn⟩ : ∃ n, L.length = n := ⟨_, rfl⟩
  simp only [hn] at H1 H2 ⊢
  rw [hn] at hL
  clear hu hv
  go_enter Tryd.func25, Tryd.ntmps25
  go_wp2_with fail
  go_loopw [13] (fun i wr => ∃ k : Nat, k ≤ n ∧ i = .int .i64 k ∧ Below w.heap.size w wr) (fun i _ => n - (intOf i).toNat)
  case atStart => exact ⟨0, by omega, rfl, Below.refl _ _⟩
  case round =>
    obtain ⟨k, hk, rfl, hB⟩ := hrel
    by_cases hlt : k < n
    · obtain ⟨b1, rfl, hb1, hc1⟩ := H1.out k hlt
      obtain ⟨b2, rfl, hb2, hc2⟩ := H2.out k hlt
      have d1 := (hB.cell (p := ⟨b1, k, none⟩) hb1).trans hc1
      have d2 := (hB.cell (p := ⟨b2, k, none⟩) hb2).trans hc2
      generalize L[k] = x at d1 d2
      clear hc1 hc2 hb1 hb2
      go_wp2_with fail
      go_quiet (fail)
      go_wp2_with fail
      exact ⟨⟨k + 1, by omega, by go_num, hB.trans (Below.drewN _ _ _)⟩, by simp [intOf]; omega⟩
    · obtain rfl : k = n := by omega
      go_wp2_with fail
      go_ret
      exact ⟨rfl, hB⟩
end Go.Proofs.YtjminjliomffaaaDoor
