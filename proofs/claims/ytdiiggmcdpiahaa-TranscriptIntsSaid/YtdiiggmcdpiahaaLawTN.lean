/- dominolaw12: the walks of TranscriptNumbers and TranscriptInts. -/
import Derived.Test.YtdiiggmcdpiahaaLawT
namespace Go.Proofs.Ytdiiggmcdpiahaa
open Go.RowKit Num
open Go.Lib (byteCells byteCells_length byteCells_append)
set_option maxRecDepth 20000

theorem flat_bd (L : List (List UInt8)) (h : ∀ j (hj : j < L.length), L[j].length ≤ 151) : (flat L).length ≤ 160 * L.length := by
  induction L with
  | nil => simp [flat]
  | cons s L ih =>
    have h0 := h 0 (by simp)
    have := ih (fun j hj => h (j + 1) (by simp; omega))
    rw [show s :: L = [s] ++ L from rfl, flat_append, flat_one]
    simp only [List.length_append, length_bytesL, List.length_cons, List.getElem_cons_zero] at h0 ⊢
    simp
    omega
set_option maxHeartbeats 2000000 in
theorem numbers_walk (a b : List UInt8) (ao : Option Addr) (cm : Nat) (L : List (List UInt8)) (w : World) (ha : a.length ≤ maxLen) (hb : b.length ≤ maxLen) (hL : ∀ s ∈ L, s.length ≤ maxLen) (hn : L.length ≤ maxLen) (hm : MoreS w ao L) :
    Calls Try.prog 6 #[.string (str a), .string (str b), .slice ao L.length cm] w fun e w' => e = .returned (.bool true) ∧ Below w.heap.size w w' := by
  have hl := long2 a b w ha hb
  obtain ⟨n, hn0⟩ : ∃ n, L.length = n := ⟨_, rfl⟩
  have HN := Lib.hid hn0
  rw [hn0] at hn ⊢
  clear hn0
  unfold maxLen at hn
  by_cases h20 : 20 < n
  · have t1 : decide (20 < (n : Int)) = true := by rw [decide_eq_true_eq]; omega
    clear hl
    go_enter Try.func6, Try.ntmps6
    go_wp2_with fail
    refine (awake_any _).mono ?_
    rintro e w2 ⟨rfl, hb2⟩
    go_wp2_with fail
    go_ret
    exact ⟨rfl, hb2⟩
  have t1 : decide (20 < (n : Int)) = false := by rw [decide_eq_false_iff_not]; omega
  by_cases h : 600 < lsum [a, b]
  · rw [decide_eq_true h] at hl
    have HL := Lib.hid hl
    clear hl h
    go_enter Try.func6, Try.ntmps6
    go_wp2_with fail
    refine HL.out.mono ?_
    rintro e w1 ⟨rfl, hb1⟩
    go_wp2_with fail
    refine (awake_any _).mono ?_
    rintro e w2 ⟨rfl, hb2⟩
    go_wp2_with fail
    go_ret
    exact ⟨rfl, hb1.trans (hb2.mono hb1.size)⟩
  · rw [decide_eq_false h] at hl
    have HL := Lib.hid hl
    have hsh := short_of h
    have ha6 : a.length ≤ 600 := hsh a (by simp)
    have hb6 : b.length ≤ 600 := hsh b (by simp)
    clear hl hsh h
    go_enter Try.func6, Try.ntmps6
    go_wp2_with fail
    refine HL.out.mono ?_
    rintro e w1 ⟨rfl, hb1⟩
    go_wp2_with fail
    clear t1
    go_loopw [21] (fun i wr => ∃ k : Nat, k ≤ n ∧ i = .int .i64 k ∧ Hid (∀ j (hj : j < L.length), j < k → L[j].length ≤ 150) ∧ Below w.heap.size w wr)
      (fun i _ => n - (intOf i).toNat)
    case atStart => exact ⟨0, by omega, rfl, fun _ _ h => by omega, hb1⟩
    case round =>
      clear hb1
      obtain ⟨k, hk, rfl, hK, hb'⟩ := hrel
      by_cases hlt : k < n
      · have hkL : k < L.length := by rw [HN.out]; exact hlt
        obtain ⟨bb, off, rfl, hc⟩ := (hm.below hb' (Nat.le_refl _)) k hkL
        obtain ⟨m, hmm⟩ : ∃ m, L[k].length = m := ⟨_, rfl⟩
        have hz : (str L[k]).size = m := by rw [size_str, hmm]
        have hml : m ≤ 9223372036854775807 := by
          have := hL L[k] (List.getElem_mem hkL)
          unfold maxLen at this; omega
        have HM := Lib.hid hmm
        clear hmm
        by_cases h150 : 150 < m
        · go_wp2_with fail
          refine (awake_any _).mono ?_
          rintro e w2 ⟨rfl, hb2⟩
          go_wp2_with fail
          go_ret
          exact ⟨rfl, hb'.trans (hb2.mono hb'.size)⟩
        · have hK2 : Hid (∀ j (hj : j < L.length), j < k + 1 → L[j].length ≤ 150) := by
            intro j hj hjk
            by_cases e : j = k
            · subst e; rw [HM.out]; omega
            · exact hK.out j hj (by omega)
          go_wp2_with fail
          exact ⟨⟨k + 1, by omega, by go_num, hK2, hb'⟩, by simp [intOf]; omega⟩
      · obtain rfl : k = n := by omega
        have hall : Hid ((flat ([a, b] ++ L)).length ≤ 800000) := by
          have h1 := flat_bd L (fun j hj => by have := hK.out j hj (by rw [← HN.out]; exact hj); omega)
          have := HN.out
          show _ ≤ _
          rw [flat_append, List.length_append, flat_two]; omega
        have hm1 := hm.below hb' (Nat.le_refl _)
        go_wp2_with fail
        have c1 := TrNats_any a b ao cm L wr hm1 hall.out
        rw [HN.out] at c1
        refine c1.mono ?_
        rintro e w2 ⟨rfl, hb2⟩
        have hm2 := hm1.below hb2 (Nat.le_refl _)
        go_wp2_with fail
        have c2 := refNats_any a b ao cm L w2 hm2 hall.out
        rw [HN.out] at c2
        refine c2.mono ?_
        rintro e w3 ⟨rfl, hb3⟩
        go_wp2_with fail
        refine (awake_any _).mono ?_
        rintro e w4 ⟨rfl, hb4⟩
        go_wp2_with fail
        go_ret
        have y1 := hb'.size
        have y2 := hb2.size
        have y3 := hb3.size
        exact ⟨rfl, bch (bch (bch hb' (by omega) hb2) (by omega) hb3) (by omega) hb4⟩
set_option maxHeartbeats 2000000 in
theorem ints_walk (a b : List UInt8) (ao : Option Addr) (cm : Nat) (L : List (Bool × List UInt8)) (w : World) (ha : a.length ≤ maxLen) (hb : b.length ≤ maxLen) (hL : ∀ s ∈ L, s.2.length ≤ maxLen) (hn : L.length ≤ maxLen) (hm : MoreI w ao L) :
    Calls Try.prog 8 #[.string (str a), .string (str b), .slice ao L.length cm] w fun e w' => e = .returned (.bool true) ∧ Below w.heap.size w w' := by
  have hl := long2 a b w ha hb
  obtain ⟨n, hn0⟩ : ∃ n, L.length = n := ⟨_, rfl⟩
  have HN := Lib.hid hn0
  rw [hn0] at hn ⊢
  clear hn0
  unfold maxLen at hn
  by_cases h20 : 20 < n
  · have t1 : decide (20 < (n : Int)) = true := by rw [decide_eq_true_eq]; omega
    clear hl
    go_enter Try.func8, Try.ntmps8
    go_wp2_with fail
    refine (awake_any _).mono ?_
    rintro e w2 ⟨rfl, hb2⟩
    go_wp2_with fail
    go_ret
    exact ⟨rfl, hb2⟩
  have t1 : decide (20 < (n : Int)) = false := by rw [decide_eq_false_iff_not]; omega
  by_cases h : 600 < lsum [a, b]
  · rw [decide_eq_true h] at hl
    have HL := Lib.hid hl
    clear hl h
    go_enter Try.func8, Try.ntmps8
    go_wp2_with fail
    refine HL.out.mono ?_
    rintro e w1 ⟨rfl, hb1⟩
    go_wp2_with fail
    refine (awake_any _).mono ?_
    rintro e w2 ⟨rfl, hb2⟩
    go_wp2_with fail
    go_ret
    exact ⟨rfl, hb1.trans (hb2.mono hb1.size)⟩
  · rw [decide_eq_false h] at hl
    have HL := Lib.hid hl
    have hsh := short_of h
    have ha6 : a.length ≤ 600 := hsh a (by simp)
    have hb6 : b.length ≤ 600 := hsh b (by simp)
    clear hl hsh h
    go_enter Try.func8, Try.ntmps8
    go_wp2_with fail
    refine HL.out.mono ?_
    rintro e w1 ⟨rfl, hb1⟩
    go_wp2_with fail
    clear t1
    go_loopw [21] (fun i wr => ∃ k : Nat, k ≤ n ∧ i = .int .i64 k ∧ Hid (∀ j (hj : j < L.length), j < k → L[j].2.length ≤ 150) ∧ Below w.heap.size w wr)
      (fun i _ => n - (intOf i).toNat)
    case atStart => exact ⟨0, by omega, rfl, fun _ _ h => by omega, hb1⟩
    case round =>
      clear hb1
      obtain ⟨k, hk, rfl, hK, hb'⟩ := hrel
      by_cases hlt : k < n
      · have hkL : k < L.length := by rw [HN.out]; exact hlt
        obtain ⟨bb, off, rfl, hc0, hc1⟩ := (hm.below hb' (Nat.le_refl _)) k hkL
        obtain ⟨m, hmm⟩ : ∃ m, L[k].2.length = m := ⟨_, rfl⟩
        have hz : (str L[k].2).size = m := by rw [size_str, hmm]
        have hml : m ≤ 9223372036854775807 := by
          have := hL L[k] (List.getElem_mem hkL)
          unfold maxLen at this; omega
        have HM := Lib.hid hmm
        clear hmm
        by_cases h150 : 150 < m
        · go_wp2_with fail
          refine (awake_any _).mono ?_
          rintro e w2 ⟨rfl, hb2⟩
          go_wp2_with fail
          go_ret
          exact ⟨rfl, (hb'.alloc hb'.size _).trans (hb2.mono (hb'.alloc hb'.size _).size)⟩
        · have hK2 : Hid (∀ j (hj : j < L.length), j < k + 1 → L[j].2.length ≤ 150) := by
            intro j hj hjk
            by_cases e : j = k
            · subst e; rw [HM.out]; omega
            · exact hK.out j hj (by omega)
          go_wp2_with fail
          exact ⟨⟨k + 1, by omega, by go_num, hK2, hb'.alloc hb'.size _⟩, by simp [intOf]; omega⟩
      · obtain rfl : k = n := by omega
        have hall : Hid ((flat ([a, b] ++ L.map itx)).length ≤ 800000) := by
          have h1 := flat_bd (L.map itx) (fun j hj => by rw [List.length_map] at hj; have := hK.out j hj (by rw [← HN.out]; exact hj); simp only [List.getElem_map, itx, List.length_cons]; omega)
          have := HN.out
          rw [List.length_map] at h1
          show _ ≤ _
          rw [flat_append, List.length_append, flat_two]; omega
        have hm1 := hm.below hb' (Nat.le_refl _)
        go_wp2_with fail
        have c1 := TrInts_any a b ao cm L wr hm1 hall.out
        rw [HN.out] at c1
        refine c1.mono ?_
        rintro e w2 ⟨rfl, hb2⟩
        have hm2 := hm1.below hb2 (Nat.le_refl _)
        go_wp2_with fail
        have c2 := refInts_any a b ao cm L w2 hm2 hall.out
        rw [HN.out] at c2
        refine c2.mono ?_
        rintro e w3 ⟨rfl, hb3⟩
        go_wp2_with fail
        refine (awake_any _).mono ?_
        rintro e w4 ⟨rfl, hb4⟩
        go_wp2_with fail
        go_ret
        have y1 := hb'.size
        have y2 := hb2.size
        have y3 := hb3.size
        exact ⟨rfl, bch (bch (bch hb' (by omega) hb2) (by omega) hb3) (by omega) hb4⟩
end Go.Proofs.Ytdiiggmcdpiahaa
