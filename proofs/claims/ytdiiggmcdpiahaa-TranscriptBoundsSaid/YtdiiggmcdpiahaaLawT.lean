/- dominolaw12: awake, long, frame. -/
import Derived.Test.YtdiiggmcdpiahaaTrRef
import Derived.Test.YtdiiggmcdpiahaaChal
import Derived.Lib.MinMax
namespace Go.Proofs.Ytdiiggmcdpiahaa
open Go.RowKit Num
open Go.Lib (byteCells byteCells_length byteCells_append)
set_option maxRecDepth 20000

theorem Sum_lit (s : ByteArray) (l : List UInt8) (w : World) (hl : s.data.toList = l) (hs : s.size ≤ 900000) :
    Calls Try.prog 23 #[.string s] w fun e w' => e = .returned (.string (sha l)) ∧ Below w.heap.size w w' := by
  subst hl; exact refSum_any s w hs
theorem isN_one : IsN ⟨#[1]⟩ 1 := ⟨by decide, by decide⟩
theorem chal_one (st : List UInt8) (w : World) (hst : st.length ≤ 100000) :
    Calls Try.prog 12 #[.string (str st), .string ⟨#[1]⟩] w fun e w' => e = .returned (.tuple #[.string ⟨#[]⟩, .int .i64 0]) ∧ Below w.heap.size w w' := by
  refine (Challenge_of st ⟨#[1]⟩ 1 w isN_one (by decide) hst ?_).mono ?_
  · intro a w ha
    obtain rfl : a = 0 := by omega
    exact times_small (enc 0) (enc 256) ⟨#[1]⟩ 0 256 1 w (IsN.mk' (by decide)) (IsN.mk' (by decide)) isN_one (by decide) (by decide) (by decide) (by decide)
  · rw [Nat.mod_one]
    rintro e w' ⟨rfl, hb⟩
    exact ⟨rfl, hb⟩
theorem awake_any (w : World) : Calls Try.prog 11 #[] w fun e w' => e = .returned (.bool true) ∧ Below w.heap.size w w' := by
  have hch := fun w => chal_one [120] w (by simp)
  have hnew := fun w => TrNew_any [97] w (by simp)
  have hsum := fun w => Sum_lit ⟨#[78, 0, 0, 0, 0, 0, 0, 0, 1, 0, 0, 0, 0, 0, 0, 0, 1, 97]⟩ (frm 78 [[97]]) w (by decide) (by decide)
  have HC := Lib.hid hch
  have HN := Lib.hid hnew
  have HS := Lib.hid hsum
  clear hch hnew hsum
  go_enter Try.func11, Try.ntmps11
  go_wp2_with fail
  refine (HC.out _).mono ?_
  rintro e w1 ⟨rfl, hb1⟩
  go_wp2_with fail
  refine (HN.out _).mono ?_
  rintro e w2 ⟨rfl, hb2⟩
  go_wp2_with fail
  refine (HS.out _).mono ?_
  rintro e w3 ⟨rfl, hb3⟩
  go_wp2_with fail
  go_ret
  exact ⟨rfl, hb1.trans ((hb2.mono hb1.size).trans (hb3.mono (Nat.le_trans hb1.size hb2.size)))⟩
/-- how long strings are together, each counted for at most 1000 -/
def lsum : List (List UInt8) → Nat
  | [] => 0
  | s :: L => min s.length 1000 + lsum L
theorem lsum_append (L M : List (List UInt8)) : lsum (L ++ M) = lsum L + lsum M := by
  induction L with
  | nil => simp [lsum]
  | cons s L ih => simp [lsum, ih]; omega
theorem lsum_take (L : List (List UInt8)) (k : Nat) (h : k < L.length) : lsum (L.take (k + 1)) = lsum (L.take k) + min L[k].length 1000 := by
  rw [List.take_succ_eq_append_getElem h, lsum_append]; rfl
theorem lsum_le (L : List (List UInt8)) : lsum L ≤ 1000 * L.length := by
  induction L with
  | nil => simp [lsum]
  | cons s L ih => simp only [lsum, List.length_cons]; omega
theorem lsum_mem (L : List (List UInt8)) : ∀ s ∈ L, min s.length 1000 ≤ lsum L := by
  induction L with
  | nil => simp
  | cons t L ih =>
    intro s hs
    rcases List.mem_cons.1 hs with rfl | h
    · simp only [lsum]; omega
    · have := ih s h; simp only [lsum]; omega
theorem short_of {L : List (List UInt8)} (h : ¬ 600 < lsum L) : ∀ s ∈ L, s.length ≤ 600 := by
  intro s hs
  have := lsum_mem L s hs
  omega
theorem long_any (v : Value) (L : List (List UInt8)) (w : World) (hS : Strs w v L) (hL : L.length ≤ 1000) (hlen : ∀ s ∈ L, s.length ≤ maxLen) :
    Calls Try.prog 10 #[v] w fun e w' => e = .returned (.bool (decide (600 < lsum L))) ∧ Below w.heap.size w w' := by
  obtain ⟨ao, cm, rfl, hm⟩ := hS.more
  obtain ⟨n, hn⟩ : ∃ n, L.length = n := ⟨_, rfl⟩
  rw [hn] at hL ⊢
  have HN := Lib.hid hn
  clear hn hS
  go_enter Try.func10, Try.ntmps10
  go_wp2_with fail
  go_loopw [3, 8] (fun x i wr => ∃ k : Nat, k ≤ n ∧ i = .int .i64 k ∧ x = .int .i64 ((lsum (L.take k) : Nat) : Int) ∧ Below w.heap.size w wr)
    (fun _ i _ => n - (intOf i).toNat)
  case atStart => exact ⟨0, by omega, rfl, by simp [lsum], Below.refl _ _⟩
  case round =>
    obtain ⟨k, hk, rfl, rfl, hb⟩ := hrel
    by_cases hlt : k < n
    · have hkL : k < L.length := by rw [HN.out]; exact hlt
      obtain ⟨b, off, rfl, hc⟩ := (hm.below hb (Nat.le_refl _)) k hkL
      have hb1 := lsum_le (L.take k)
      rw [List.length_take] at hb1
      have hst := lsum_take L k hkL
      obtain ⟨m, hmm⟩ : ∃ m, L[k].length = m := ⟨_, rfl⟩
      have hz : (str L[k]).size = m := by rw [size_str, hmm]
      have hml : m ≤ 9223372036854775807 := by
        have := hlen L[k] (List.getElem_mem hkL)
        unfold maxLen at this; omega
      obtain ⟨q, hmn, q0⟩ : ∃ q : Nat, min (m : Int) 1000 = q ∧ q = min m 1000 := ⟨min m 1000, by omega, rfl⟩
      have q1 : q ≤ 1000 := by omega
      rw [hmm, ← q0] at hst
      have HST := Lib.hid hst
      clear hst hmm q0
      have hl2 : lsum (L.take k) ≤ 1000000 := by omega
      clear hb1
      go_wp2_with fail
      exact ⟨⟨k + 1, by omega, by go_num, by rw [HST.out]; go_num, hb⟩, by simp [intOf]; omega⟩
    · obtain rfl : k = n := by omega
      rw [List.take_of_length_le (by rw [HN.out]; omega)]
      go_wp2_with fail
      go_ret
      refine ⟨ret_bool ?_, hb⟩
      rw [decide_eq_decide]
      omega
/-- long with all its premises of three strings -/
theorem long3 (a b c : List UInt8) (w : World) (ha : a.length ≤ maxLen) (hb : b.length ≤ maxLen) (hc : c.length ≤ maxLen) :
    Calls Try.prog 10 #[.slice (some ⟨w.heap.size, 0, none⟩) 3 3] (w.alloc (.cells #[.string (str a), .string (str b), .string (str c)] 9)) fun e w' => e = .returned (.bool (decide (600 < lsum [a, b, c]))) ∧ Below w.heap.size w w' := by
  refine (long_any _ [a, b, c] _ (Strs.lit w [a, b, c] #[.string (str a), .string (str b), .string (str c)] rfl) (by simp) (by simp; exact ⟨ha, hb, hc⟩)).mono ?_
  rintro e w' ⟨he, hb⟩
  exact ⟨he, (blw_alloc _ _).trans (hb.mono (by simp))⟩
theorem long2 (a b : List UInt8) (w : World) (ha : a.length ≤ maxLen) (hb : b.length ≤ maxLen) :
    Calls Try.prog 10 #[.slice (some ⟨w.heap.size, 0, none⟩) 2 2] (w.alloc (.cells #[.string (str a), .string (str b)] 9)) fun e w' => e = .returned (.bool (decide (600 < lsum [a, b]))) ∧ Below w.heap.size w w' := by
  refine (long_any _ [a, b] _ (Strs.lit w [a, b] #[.string (str a), .string (str b)] rfl) (by simp) (by simp; exact ⟨ha, hb⟩)).mono ?_
  rintro e w' ⟨he, hb⟩
  exact ⟨he, (blw_alloc _ _).trans (hb.mono (by simp))⟩
theorem bch {w w1 w2 : World} {B : Nat} (h1 : Below B w w1) (hB : B ≤ w1.heap.size) (h2 : Below w1.heap.size w1 w2) : Below B w w2 := h1.trans (h2.mono hB)
theorem starts_walk (a b c : List UInt8) (w : World) (ha : a.length ≤ maxLen) (hb : b.length ≤ maxLen) (hc : c.length ≤ maxLen) :
    Calls Try.prog 5 #[.string (str a), .string (str b), .string (str c)] w fun e w' => e = .returned (.bool true) ∧ Below w.heap.size w w' := by
  have hl := long3 a b c w ha hb hc
  by_cases h : 600 < lsum [a, b, c]
  · rw [decide_eq_true h] at hl
    have HL := Lib.hid hl
    clear hl
    go_enter Try.func5, Try.ntmps5
    go_wp2_with fail
    refine HL.out.mono ?_
    rintro e w1 ⟨rfl, hb1⟩
    go_wp2_with fail
    refine (awake_any _).mono ?_
    rintro e w2 ⟨rfl, hb2⟩
    go_wp2_with fail
    go_ret
    exact ⟨rfl, hb1.trans (hb2.mono hb1.size)⟩
  · rw [decide_eq_false h] at hl
    have HL := Lib.hid hl
    have hs := short_of h
    have ha6 : a.length ≤ 600 := hs a (by simp)
    have hb6 : b.length ≤ 600 := hs b (by simp)
    have hc6 : c.length ≤ 600 := hs c (by simp)
    clear hl hs h
    go_enter Try.func5, Try.ntmps5
    go_wp2_with fail
    refine HL.out.mono ?_
    rintro e w1 ⟨rfl, hb1⟩
    go_wp2_with fail
    refine (TrNew_any b _ (by omega)).mono ?_
    rintro e w2 ⟨rfl, hb2⟩
    go_wp2_with fail
    refine (refNew_any b _ (by omega)).mono ?_
    rintro e w3 ⟨rfl, hb3⟩
    go_wp2_with fail
    refine (TrAdd_any a b c _ (by omega) (by omega) (by omega)).mono ?_
    rintro e w4 ⟨rfl, hb4⟩
    go_wp2_with fail
    refine (refAdd_any a b c _ (by omega) (by omega) (by omega)).mono ?_
    rintro e w5 ⟨rfl, hb5⟩
    go_wp2_with fail
    refine (awake_any _).mono ?_
    rintro e w6 ⟨rfl, hb6⟩
    go_wp2_with fail
    go_ret
    have z1 := hb1.size
    have z2 := hb2.size
    have z3 := hb3.size
    have z4 := hb4.size
    have z5 := hb5.size
    exact ⟨rfl, bch (bch (bch (bch (bch hb1 z1 hb2) (by omega) hb3) (by omega) hb4) (by omega) hb5) (by omega) hb6⟩
theorem MoreS.lit (w : World) (T : TypeId) (L : List (List UInt8)) (cs : Array Value) (h : cs = (svals L).toArray) : MoreS (w.alloc (.cells cs T)) (some ⟨w.heap.size, 0, none⟩) L := by
  subst h
  intro k hk
  refine ⟨_, _, rfl, ?_⟩
  rw [Nat.zero_add, new_cell0]
  simp [svals, hk]
theorem size_sha' (l : List UInt8) : (sha l).size = 32 := size_sha l
theorem lengths_walk (a b c : List UInt8) (w : World) (ha : a.length ≤ maxLen) (hb : b.length ≤ maxLen) (hc : c.length ≤ maxLen) :
    Calls Try.prog 9 #[.string (str a), .string (str b), .string (str c)] w fun e w' => e = .returned (.bool true) ∧ Below w.heap.size w w' := by
  have hl := long3 a b c w ha hb hc
  by_cases h : 600 < lsum [a, b, c]
  · rw [decide_eq_true h] at hl
    have HL := Lib.hid hl
    clear hl
    go_enter Try.func9, Try.ntmps9
    go_wp2_with fail
    refine HL.out.mono ?_
    rintro e w1 ⟨rfl, hb1⟩
    go_wp2_with fail
    refine (awake_any _).mono ?_
    rintro e w2 ⟨rfl, hb2⟩
    go_wp2_with fail
    go_ret
    exact ⟨rfl, hb1.trans (hb2.mono hb1.size)⟩
  · rw [decide_eq_false h] at hl
    have HL := Lib.hid hl
    have hs := short_of h
    have ha6 : a.length ≤ 600 := hs a (by simp)
    have hb6 : b.length ≤ 600 := hs b (by simp)
    have hc6 : c.length ≤ 600 := hs c (by simp)
    have z1 := size_sha (frm 78 [b])
    have z2 := size_sha (frm 65 [a, b, c])
    have z3 := size_sha (frm 76 [a, b, c])
    have z4 := size_sha (frm 73 [a, b, itx (false, c)])
    clear hl hs h
    go_enter Try.func9, Try.ntmps9
    go_wp2_with fail
    refine HL.out.mono ?_
    rintro e w1 ⟨rfl, hb1⟩
    go_wp2_with fail
    refine (TrNew_any b _ (by omega)).mono ?_
    rintro e w2 ⟨rfl, hb2⟩
    go_wp2_with fail
    refine (TrAdd_any a b c _ (by omega) (by omega) (by omega)).mono ?_
    rintro e w3 ⟨rfl, hb3⟩
    go_wp2_with fail
    refine (TrNats_any a b _ 1 [c] _ (MoreS.lit w3 _ [c] #[.string (str c)] rfl) (by show (flat [a, b, c]).length ≤ _; rw [flat_three]; omega)).mono ?_
    rintro e w4 ⟨rfl, hb4⟩
    have hb4' := (blw_alloc w3 _).trans (hb4.mono (by simp))
    go_wp2_with fail
    refine (TrInts_any a b _ 1 [(false, c)] _ ?_ ?_).mono ?_
    rotate_left
    · show (flat [a, b, itx (false, c)]).length ≤ _; rw [flat_three]; simp only [itx, List.length_cons]; omega
    · rintro e w5 ⟨rfl, hb5⟩
      have hb5' := (blw_alloc w4 _).trans (hb5.mono (by simp))
      rw [show [a, b] ++ [(false, c)].map itx = [a, b, itx (false, c)] from rfl]
      go_wp2_with fail
      refine (awake_any _).mono ?_
      rintro e w6 ⟨rfl, hb6⟩
      go_wp2_with fail
      go_ret
      have y1 := hb1.size
      have y2 := hb2.size
      have y3 := hb3.size
      have y4 := hb4'.size
      have y5 := hb5'.size
      exact ⟨rfl, bch (bch (bch (bch (bch hb1 y1 hb2) (by omega) hb3) (by omega) hb4') (by omega) hb5') (by omega) hb6⟩
    · intro k hk
      obtain rfl : k = 0 := by simpa using hk
      exact ⟨_, 0, rfl, by rw [new_cell0]; rfl, by rw [new_cell0]; rfl⟩
end Go.Proofs.Ytdiiggmcdpiahaa
