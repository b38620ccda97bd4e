/- Contracts: prime.Next, Safe and dominoref04 Is, NextU, Next, Safe. -/
import Derived.Test.YtjminjliomffaaaDoorPrmD
namespace Go.Proofs.YtjminjliomffaaaDoor
open Go.RowKit Num
set_option maxRecDepth 20000
set_option linter.unusedVariables false

namespace Num
/-- the least number that passes the test, among the f next ones -/
def nextF : Nat → Nat → Option Nat
  | 0, _ => none
  | f + 1, n => if isB (n + 1) = true then some (n + 1) else nextF f (n + 1)
def nextP (n : Nat) : Option Nat := nextF (18446744073709551615 - n) n
theorem nextP_none : nextP 18446744073709551615 = none := rfl
theorem nextP_step {n : Nat} (h : n < 18446744073709551615) : nextP n = if isB (n + 1) = true then some (n + 1) else nextP (n + 1) := by
  unfold nextP
  obtain ⟨k, hk⟩ : ∃ k, 18446744073709551615 - n = k + 1 := ⟨18446744073709551615 - n - 1, by omega⟩
  rw [hk, show 18446744073709551615 - (n + 1) = k from by omega]
  rfl
theorem nextF_spec : ∀ (f n p : Nat), nextF f n = some p → n < p ∧ p ≤ n + f ∧ isB p = true ∧ ∀ m, n < m → m < p → isB m = false
  | 0, n, p, h => by cases h
  | f + 1, n, p, h => by
    unfold nextF at h
    by_cases hb : isB (n + 1) = true
    · rw [if_pos hb] at h
      cases h
      exact ⟨by omega, by omega, hb, fun m h1 h2 => by omega⟩
    · rw [if_neg hb] at h
      obtain ⟨h1, h2, h3, h4⟩ := nextF_spec f (n + 1) p h
      refine ⟨by omega, by omega, h3, fun m h5 h6 => ?_⟩
      by_cases e : m = n + 1
      · subst e; simpa using hb
      · exact h4 m (by omega) h6
end Num
/-- the number that Next returns, and its error -/
def nxS (s : ByteArray) : ByteArray := if okN s = true then (match nextP (nv s) with | some p => enc p | none => ⟨#[]⟩) else ⟨#[]⟩
def nxE (s : ByteArray) : Int := if okN s = true then (match nextP (nv s) with | some p => 0 | none => 5) else smE s
set_option maxHeartbeats 1000000 in
theorem prNext_any (s : ByteArray) (w : World) (hT : Tab w) :
    Calls Tryd.prog 22 #[.string s] w fun e w' => e = .returned (.tuple #[.string (nxS s), .int .i64 (nxE s)]) ∧ Below w.heap.size w w' := by
  rcases cls s with ⟨h1, h2, h3⟩ | ⟨h1, h8, h2, h3⟩ | ⟨h1, h8, hlt, h2, h3⟩
  · have e1 : nxS s = ⟨#[]⟩ := by unfold nxS; rw [h3]; rfl
    have e2 : nxE s = 3 := by unfold nxE; rw [h3, h2]; rfl
    rw [e1, e2]
    have H1 := Lib.hid h1
    clear h1 h2 h3 e1 e2
    go_enter Tryd.func22, Tryd.ntmps22
    go_wp2_with fail
    refine (prsmall_bad _ _ H1.out).mono ?_; rintro e w' ⟨rfl, rfl⟩
    go_wp2_with fail
    go_ret2
    exact ⟨rfl, Below.refl _ _⟩
  · have e1 : nxS s = ⟨#[]⟩ := by unfold nxS; rw [h3]; rfl
    have e2 : nxE s = 5 := by unfold nxE; rw [h3, h2]; rfl
    rw [e1, e2]
    have H1 := Lib.hid (And.intro h1 h8)
    clear h1 h2 h3 e1 e2 h8
    go_enter Tryd.func22, Tryd.ntmps22
    go_wp2_with fail
    refine (prsmall_long _ _ H1.out.1 H1.out.2).mono ?_; rintro e w' ⟨rfl, rfl⟩
    go_wp2_with fail
    go_ret2
    exact ⟨rfl, Below.refl _ _⟩
  · have e1 : nxS s = (match nextP (nv s) with | some p => enc p | none => ⟨#[]⟩) := by unfold nxS; rw [h3]; rfl
    have e2 : nxE s = (match nextP (nv s) with | some p => 0 | none => 5) := by unfold nxE; rw [h3]; rfl
    have E1 := Lib.hid e1
    have E2 := Lib.hid e2
    have H1 := Lib.hid (And.intro h1 h8)
    have HT := Lib.hid hT
    clear h1 h2 h3 e1 e2 h8 hT
    go_enter Tryd.func22, Tryd.ntmps22
    go_wp2_with fail
    refine (prsmall_ok _ _ H1.out.1 H1.out.2).mono ?_; rintro e w' ⟨rfl, rfl⟩
    obtain ⟨n, hn⟩ : ∃ n, nv s = n := ⟨_, rfl⟩
    rw [hn] at hlt E1 E2 ⊢
    clear hn
    go_wp2_with fail
    go_loopw [4] (fun v wr => ∃ x : Nat, v = .int .u64 (x : Int) ∧ n ≤ x ∧ x ≤ 18446744073709551615 ∧ Hid (nextP x = nextP n) ∧ Below w.heap.size w wr) (fun v _ => (18446744073709551615 - intOf v).toNat)
    case atStart => exact ⟨n, rfl, by omega, by omega, rfl, Below.refl _ _⟩
    case round =>
      obtain ⟨x, rfl, hx1, hx2, hx3, hb⟩ := hrel
      have zb := hb.size
      by_cases hx : x < 18446744073709551615
      · have st := nextP_step hx
        have d1 : decide ((x : Int) < 18446744073709551615) = true := by rw [decide_eq_true_eq]; omega
        have o1 : IntKind.u64.wrap ((x : Int) + 1) = ((x + 1 : Nat) : Int) := by rw [wraps_u64 _ (by omega) (by omega)]; omega
        have ST := Lib.hid st
        have hx4 : x + 1 < 18446744073709551616 := by omega
        have HX := Lib.hid hx4
        clear st hx4
        go_wp2_with fail
        refine (is_any (x + 1) _ HX.out (HT.out.below hb)).mono ?_
        rintro e w1 ⟨rfl, hb1⟩
        have hb2 := hb.trans (hb1.mono zb)
        rcases Bool.eq_false_or_eq_true (isB (x + 1)) with hs | hs
        · have hfin : nextP n = some (x + 1) := by rw [← hx3.out, ST.out, if_pos hs]
          rw [hfin] at E1 E2
          rw [hs]
          clear hs hfin o1 d1
          have zc := hb2.size
          go_wp2_with fail
          refine (Of_any (x + 1) _ HX.out).mono ?_
          rintro e w2 ⟨rfl, hb3⟩
          go_wp2_with fail
          go_ret2
          rw [E1.out, E2.out]
          exact ⟨rfl, hb2.trans (hb3.mono zc)⟩
        · have hfin : nextP (x + 1) = nextP n := by rw [← hx3.out, ST.out, if_neg (by rw [hs]; simp)]
          have HF := Lib.hid hfin
          rw [hs]
          clear hs hfin o1 d1
          go_wp2_with fail
          exact ⟨⟨x + 1, by go_num, by omega, by omega, HF.out, hb2⟩, by simp [intOf]; omega⟩
      · obtain rfl : x = 18446744073709551615 := by omega
        have hfin : nextP n = none := by rw [← hx3.out, nextP_none]
        rw [hfin] at E1 E2
        clear hfin hx3 hlt hx1 hx2
        go_wp2_with fail
        go_ret2
        rw [E1.out, E2.out]
        exact ⟨rfl, hb⟩

theorem prSafe_any (s : ByteArray) (w : World) (hT : Tab w) :
    Calls Tryd.prog 23 #[.string s] w fun e w' => e = .returned (.tuple #[.bool (sfS s), .int .i64 (smE s)]) ∧ Below w.heap.size w w' := by
  rcases cls s with ⟨h1, h2, h3⟩ | ⟨h1, h8, h2, h3⟩ | ⟨h1, h8, hlt, h2, h3⟩
  · have e1 : sfS s = false := by unfold sfS; rw [h3]; rfl
    rw [e1, h2]
    have H1 := Lib.hid h1
    clear h1 h2 h3 e1
    go_enter Tryd.func23, Tryd.ntmps23
    go_wp2_with fail
    refine (prsmall_bad _ _ H1.out).mono ?_; rintro e w' ⟨rfl, rfl⟩
    go_wp2_with fail
    go_ret2
    exact ⟨rfl, Below.refl _ _⟩
  · have e1 : sfS s = false := by unfold sfS; rw [h3]; rfl
    rw [e1, h2]
    have H1 := Lib.hid (And.intro h1 h8)
    clear h1 h2 h3 e1 h8
    go_enter Tryd.func23, Tryd.ntmps23
    go_wp2_with fail
    refine (prsmall_long _ _ H1.out.1 H1.out.2).mono ?_; rintro e w' ⟨rfl, rfl⟩
    go_wp2_with fail
    go_ret2
    exact ⟨rfl, Below.refl _ _⟩
  · have e1 : sfS s = (isB (nv s) && isB ((nv s - 1) / 2)) := by unfold sfS; rw [h3]; rfl
    rw [e1, h2]
    have H1 := Lib.hid (And.intro h1 h8)
    clear h1 h2 h3 e1 h8
    obtain ⟨n, hn⟩ : ∃ n, nv s = n := ⟨_, rfl⟩
    have HN := Lib.hid hn
    rw [hn] at hlt ⊢
    clear hn
    rcases Bool.eq_false_or_eq_true (isB n) with hs | hs
    · have h2n : 2 ≤ n := by
        rcases Nat.lt_or_ge n 2 with h | h
        · rw [isB_small h] at hs; cases hs
        · exact h
      have HL := Lib.hid hlt
      have hl2 : (n - 1) / 2 < 18446744073709551616 := by omega
      have HL2 := Lib.hid hl2
      have hc : ((n : Int) - 1) / 2 = (((n - 1) / 2 : Nat) : Int) := by omega
      have HC := Lib.hid hc
      have HS := Lib.hid hs
      clear hc hs
      rw [show (isB n && isB ((n - 1) / 2)) = isB ((n - 1) / 2) from by rw [HS.out]; rfl]
      go_enter Tryd.func23, Tryd.ntmps23
      go_wp2_with fail
      refine (prsmall_ok _ _ H1.out.1 H1.out.2).mono ?_; rintro e w' ⟨rfl, rfl⟩
      rw [HN.out]
      go_wp2_with fail
      refine (is_any n _ HL.out hT).mono ?_; rintro e w1 ⟨rfl, hb⟩
      rw [HS.out]
      go_wp2_with fail
      rw [HC.out]
      refine (is_any ((n - 1) / 2) _ HL2.out (hT.below hb)).mono ?_; rintro e w2 ⟨rfl, hb2⟩
      go_wp2_with fail
      go_ret2
      exact ⟨rfl, hb.trans (hb2.mono hb.size)⟩
    · have HL := Lib.hid hlt
      have HS := Lib.hid hs
      clear hs
      rw [show (isB n && isB ((n - 1) / 2)) = false from by rw [HS.out]; rfl]
      go_enter Tryd.func23, Tryd.ntmps23
      go_wp2_with fail
      refine (prsmall_ok _ _ H1.out.1 H1.out.2).mono ?_; rintro e w' ⟨rfl, rfl⟩
      rw [HN.out]
      go_wp2_with fail
      refine (is_any n _ HL.out hT).mono ?_; rintro e w1 ⟨rfl, hb⟩
      rw [HS.out]
      go_wp2_with fail
      go_ret2
      exact ⟨rfl, hb⟩
end Go.Proofs.YtjminjliomffaaaDoor
