/- Contracts of the package modular: remainder of any numbers, times of any numbers, Mul. -/
import Derived.Test.YtdlbnioidfhhcaaGreatRem
import Derived.Test.YtdlbnioidfhhcaaGreatModB
namespace Go.Proofs.YtdlbnioidfhhcaaGreat
open Go.RowKit Num
set_option maxRecDepth 20000
set_option linter.unusedVariables false

theorem remainder_any (ba na ca bm nm cm A M : Nat) (w : World) (h1 : na ≤ ca) (h2 : nm ≤ cm) (g1 : ca ≤ 500) (g2 : cm ≤ 500) (ha : Wds w ba na (wd A)) (hb : Wds w bm nm (wd M)) (l1 : ba < w.heap.size) (l2 : bm < w.heap.size)
    (hA : A < 4294967296 ^ na) (hM : M < 4294967296 ^ nm) (h0 : 0 < M) :
    Calls Tryz.prog 101 #[.slice (some ⟨ba, 0, none⟩) na ca, .slice (some ⟨bm, 0, none⟩) nm cm] w fun e w' => RemPost w (A % M) e w' := by
  rcases Nat.lt_or_ge (tl (wd A) na) (tl (wd M) nm) with h | h
  · exact remainder_less ba na ca bm nm cm A M w h1 h2 g1 g2 ha hb l1 l2 hA hM h0 h
  · have hp := tl_pos M nm hM h0
    rcases Nat.lt_or_ge (tl (wd M) nm) 2 with h3 | h3
    · exact remainder_one ba na ca bm nm cm A M w h1 h2 g1 g2 ha hb l1 l2 hA hM h0 h (by omega)
    · exact remainder_long ba na ca bm nm cm A M w h1 h2 g1 g2 ha hb l1 l2 hA hM h0 h h3

set_option maxHeartbeats 1000000 in
theorem times_long (s t v : ByteArray) (a b m : Nat) (w : World) (hs : IsN s a) (ht : IsN t b) (hv : IsN v m) (h0 : 0 < m) (h : 8 < s.size ∨ s.size ≤ 8 ∧ 8 < t.size ∨ s.size ≤ 8 ∧ t.size ≤ 8 ∧ 8 < v.size) :
    Calls Tryz.prog 74 #[.string s, .string t, .string v] w fun e w' => e = .returned (.string (enc (a * b % m))) ∧ Below w.heap.size w w' := by
  have la := hs.small
  have lb := ht.small
  have lm := hv.small
  have HS := Lib.hid hs; clear hs
  have HT := Lib.hid ht; clear ht
  have HV := Lib.hid hv; clear hv
  rcases h with l1 | ⟨l1, l2⟩ | ⟨l1, l2, l3⟩
  all_goals
    go_enter Tryz.func74, Tryz.ntmps74
    go_wp2_with fail
    refine (limbs_any _ _ _ HS.out).mono ?_; rintro e w1 ⟨rfl, ha, hb1, hA⟩
    go_wp2_with fail
    refine (limbs_any _ _ _ HT.out).mono ?_; rintro e w2 ⟨rfl, hb, hb2, hB⟩
    have HA := Lib.hid hA; clear hA
    have HB := Lib.hid hB; clear hB
    have ha2 := ha.below hb2 ha.lt
    go_wp2_with fail
    refine (mprod_any _ _ _ _ _ _ a b _ (Nat.le_refl _) (Nat.le_refl _) (by omega) (by omega) ha2.wds hb.wds ha2.lt hb.lt HA.out HB.out).mono ?_; rintro e w3 ⟨rfl, hp, hb3⟩
    have hP := Nat.mul_lt_mul'' HA.out HB.out
    rw [← Nat.pow_add] at hP
    have HP := Lib.hid hP; clear hP
    go_wp2_with fail
    refine (limbs_any _ _ _ HV.out).mono ?_; rintro e w4 ⟨rfl, hm, hb4, hM⟩
    have HM := Lib.hid hM; clear hM
    have hp2 := hp.below hb4 hp.lt
    go_wp2_with fail
    refine (remainder_any _ _ _ _ _ _ (a * b) m _ (Nat.le_refl _) (Nat.le_refl _) (by omega) (by omega) hp2.wds hm.wds hp2.lt hm.lt HP.out HM.out h0).mono ?_; rintro e w5 ⟨br, n, c, rfl, hnc, hc, hw, hl, hx, hb5⟩
    have HX := Lib.hid hx; clear hx
    go_wp2_with fail
    refine (number_any _ _ _ (a * b % m) _ hnc hc hw hl HX.out).mono ?_; rintro e w6 ⟨rfl, hb6⟩
    go_wp2_with fail
    go_ret
    have z1 := hb1.size
    have z2 := hb2.size
    have z3 := hb3.size
    have z4 := hb4.size
    have z5 := hb5.size
    exact ⟨rfl, ((((hb1.trans (hb2.mono (by omega))).trans (hb3.mono (by omega))).trans (hb4.mono (by omega))).trans (hb5.mono (by omega))).trans (hb6.mono (by omega))⟩
theorem times_any (s t v : ByteArray) (a b m : Nat) (w : World) (hs : IsN s a) (ht : IsN t b) (hv : IsN v m) (h0 : 0 < m) :
    Calls Tryz.prog 74 #[.string s, .string t, .string v] w fun e w' => e = .returned (.string (enc (a * b % m))) ∧ Below w.heap.size w w' := by
  by_cases h : s.size ≤ 8 ∧ t.size ≤ 8 ∧ v.size ≤ 8
  · exact times_small s t v a b m w hs ht hv h0 h.1 h.2.1 h.2.2
  · exact times_long s t v a b m w hs ht hv h0 (by omega)
theorem ModMul_ok (s t v : ByteArray) (a b m : Nat) (w : World) (hs : IsN s a) (ht : IsN t b) (hv : IsN v m) (h0 : 0 < m) :
    Calls Tryz.prog 48 #[.string s, .string t, .string v] w fun e w' => e = .returned (.tuple #[.string (enc (a * b % m)), .int .i64 0]) ∧ Below w.heap.size w w' :=
  ModMul_of s t v a b m w hs ht hv h0 (fun w => times_any s t v a b m w hs ht hv h0)
end Go.Proofs.YtdlbnioidfhhcaaGreat
