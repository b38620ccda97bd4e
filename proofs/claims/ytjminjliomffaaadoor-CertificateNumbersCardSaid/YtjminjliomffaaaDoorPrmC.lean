import Derived.Test.YtjminjliomffaaaDoorPrmB
import Derived.Test.YtjminjliomffaaaDoorRfA
import Derived.Test.YtjminjliomffaaaDoorBytes
import Derived.BigQuiet
import Derived.Deep.QuietTactic
import Derived.Test.YtjminjliomffaaaDoorNatE
/- Contracts of the reference of layer 4: Formed, U, Of, AddMod, MulMod, ExpMod, StrongU, IsU, Mod. -/
namespace Go.Proofs.YtjminjliomffaaaDoor
open Go.RowKit Num
set_option maxRecDepth 20000
set_option linter.unusedVariables false

namespace Num
theorem mul_odd {a b out : Nat} (h : b % 2 = 1) : out + a + (a + a) * (b / 2) = out + a * b := by
  have e1 : b = 1 + 2 * (b / 2) := by omega
  conv => rhs; rw [e1, Nat.mul_add, Nat.mul_one, ← Nat.mul_assoc]
  rw [show a + a = a * 2 from by omega]; omega
theorem mul_even {a b out : Nat} (h : b % 2 = 0) : out + (a + a) * (b / 2) = out + a * b := by
  have e1 : b = 2 * (b / 2) := by omega
  conv => rhs; rw [e1, ← Nat.mul_assoc]
  rw [show a + a = a * 2 from by omega]
theorem mul_stepm {x a b m : Nat} : (x % m + a % m * b) % m = (x + a * b) % m := by
  rw [Nat.add_mod, Nat.mod_mod, Nat.mod_mul_mod, ← Nat.add_mod]
theorem mul_stepm0 {x a b m : Nat} : (x + a % m * b) % m = (x + a * b) % m := by
  rw [Nat.add_mod, Nat.mod_mul_mod, ← Nat.add_mod]
end Num
namespace Num
/-- what the strong test of 64 bits answers: for any number, to a base below it -/
def strongU (n a : Nat) : Bool := if n < 3 ∨ n % 2 = 0 then n == 2 else if a = 0 then true else strongB n a
end Num
end Go.Proofs.YtjminjliomffaaaDoor

/- Contracts: prime.small, Is, Next, Safe, and dominoref04 Formed, U, Of, IsU, Is, NextU, Next, Safe. -/
namespace Go.Proofs.YtjminjliomffaaaDoor
open Go.RowKit Num
set_option maxRecDepth 20000
set_option linter.unusedVariables false

/-- the error of a number that must be short -/
def smE (s : ByteArray) : Int := if validB s = true then (if s.size ≤ 8 then 0 else 5) else 3
def okN (s : ByteArray) : Bool := validB s && decide (s.size ≤ 8)
def isS (s : ByteArray) : Bool := okN s && isB (nv s)
def sfS (s : ByteArray) : Bool := okN s && (isB (nv s) && isB ((nv s - 1) / 2))
theorem cls (s : ByteArray) : (validB s = false ∧ smE s = 3 ∧ okN s = false) ∨ (validB s = true ∧ 8 < s.size ∧ smE s = 5 ∧ okN s = false) ∨ (IsN s (nv s) ∧ s.size ≤ 8 ∧ nv s < 18446744073709551616 ∧ smE s = 0 ∧ okN s = true) := by
  by_cases hv : validB s = true
  · by_cases h8 : s.size ≤ 8
    · refine .inr (.inr ⟨isN_of_valid hv, h8, ?_, by unfold smE; rw [if_pos hv, if_pos h8], by unfold okN; rw [hv, decide_eq_true h8]; rfl⟩)
      have h1 := nv_lt s
      have h2 : 256 ^ s.size ≤ 256 ^ 8 := Nat.pow_le_pow_right (by omega) h8
      omega
    · exact .inr (.inl ⟨hv, by omega, by unfold smE; rw [if_pos hv, if_neg h8], by unfold okN; rw [hv, decide_eq_false h8]; rfl⟩)
  · have hv2 : validB s = false := by simpa using hv
    exact .inl ⟨hv2, by unfold smE; rw [if_neg hv], by unfold okN; rw [hv2]; rfl⟩
theorem prsmall_bad (s : ByteArray) (w : World) (h : validB s = false) :
    Calls Tryd.prog 19 #[.string s] w fun e w' => e = .returned (.tuple #[.int .u64 0, .int .i64 3]) ∧ w = w' := by
  have H := Lib.hid h
  clear h
  go_enter Tryd.func19, Tryd.ntmps19
  go_wp2_with (go_at_call 26; refine (Valid_any _ _).mono ?_; rw [H.out]; rintro e w' ⟨rfl, rfl⟩)
  go_ret2
  exact ⟨rfl, rfl⟩
theorem prsmall_long (s : ByteArray) (w : World) (h : validB s = true) (h8 : 8 < s.size) :
    Calls Tryd.prog 19 #[.string s] w fun e w' => e = .returned (.tuple #[.int .u64 0, .int .i64 5]) ∧ w = w' := by
  have hn := isN_of_valid h
  have hd : decide (blen (nv s) ≤ 8) = false := decide_eq_false (by rw [← hn.size]; omega)
  have HN := Lib.hid hn
  have HD := Lib.hid hd
  clear h h8 hn hd
  go_enter Tryd.func19, Tryd.ntmps19
  go_wp2_with fail
  refine (Valid_yes _ _ _ HN.out).mono ?_; rintro e w' ⟨rfl, rfl⟩
  go_wp2_with fail
  refine (Small_any _ _ _ HN.out).mono ?_; rintro e w' ⟨rfl, rfl⟩
  rw [HD.out]
  go_wp2_with fail
  go_ret2
  exact ⟨rfl, rfl⟩
theorem prsmall_ok (s : ByteArray) (w : World) (h : IsN s (nv s)) (h8 : s.size ≤ 8) :
    Calls Tryd.prog 19 #[.string s] w fun e w' => e = .returned (.tuple #[.int .u64 ((nv s : Nat) : Int), .int .i64 0]) ∧ w = w' := by
  have hd : decide (blen (nv s) ≤ 8) = true := decide_eq_true (by rw [← h.size]; omega)
  have hs := sm_short (show blen (nv s) ≤ 8 by rw [← h.size]; omega)
  have HN := Lib.hid h
  have HD := Lib.hid hd
  have HS := Lib.hid hs
  clear h h8 hd hs
  go_enter Tryd.func19, Tryd.ntmps19
  go_wp2_with fail
  refine (Valid_yes _ _ _ HN.out).mono ?_; rintro e w' ⟨rfl, rfl⟩
  go_wp2_with fail
  refine (Small_any _ _ _ HN.out).mono ?_; rintro e w' ⟨rfl, rfl⟩
  rw [HD.out, HS.out]
  go_wp2_with fail
  go_ret2
  exact ⟨rfl, rfl⟩
theorem ret_ib {b c : Bool} {k : IntKind} {x y : Int} (h : x = y) (g : b = c) : Ending.returned (.tuple #[.int k x, .bool b]) = .returned (.tuple #[.int k y, .bool c]) := by rw [h, g]
theorem ret_bi {b c : Bool} {k : IntKind} {x y : Int} (h : b = c) (g : x = y) : Ending.returned (.tuple #[.bool b, .int k x]) = .returned (.tuple #[.bool c, .int k y]) := by rw [h, g]
theorem prIs_any (s : ByteArray) (w : World) (hT : Tab w) :
    Calls Tryd.prog 8 #[.string s] w fun e w' => e = .returned (.tuple #[.bool (isS s), .int .i64 (smE s)]) ∧ Below w.heap.size w w' := by
  rcases cls s with ⟨h1, h2, h3⟩ | ⟨h1, h8, h2, h3⟩ | ⟨h1, h8, hlt, h2, h3⟩
  · have e1 : isS s = false := by unfold isS; rw [h3]; rfl
    rw [e1, h2]
    have H1 := Lib.hid h1
    clear h1 h2 h3 e1
    go_enter Tryd.func8, Tryd.ntmps8
    go_wp2_with fail
    refine (prsmall_bad _ _ H1.out).mono ?_; rintro e w' ⟨rfl, rfl⟩
    go_wp2_with fail
    go_ret2
    exact ⟨rfl, Below.refl _ _⟩
  · have e1 : isS s = false := by unfold isS; rw [h3]; rfl
    rw [e1, h2]
    have H1 := Lib.hid (And.intro h1 h8)
    clear h1 h2 h3 e1 h8
    go_enter Tryd.func8, Tryd.ntmps8
    go_wp2_with fail
    refine (prsmall_long _ _ H1.out.1 H1.out.2).mono ?_; rintro e w' ⟨rfl, rfl⟩
    go_wp2_with fail
    go_ret2
    exact ⟨rfl, Below.refl _ _⟩
  · have e1 : isS s = isB (nv s) := by unfold isS; rw [h3]; rfl
    rw [e1, h2]
    have H1 := Lib.hid (And.intro h1 h8)
    have HL := Lib.hid hlt
    clear h1 h2 h3 e1 h8 hlt
    go_enter Tryd.func8, Tryd.ntmps8
    go_wp2_with fail
    refine (prsmall_ok _ _ H1.out.1 H1.out.2).mono ?_; rintro e w' ⟨rfl, rfl⟩
    go_wp2_with fail
    refine (is_any (nv s) _ HL.out hT).mono ?_; rintro e w' ⟨rfl, hb⟩
    go_wp2_with fail
    go_ret2
    exact ⟨rfl, hb⟩

theorem bytesL_cons' (k n : Nat) : bytesL (k + 1) n = UInt8.ofNat (n / 256 ^ k) :: bytesL k n := by
  unfold bytesL
  rw [List.range_succ_eq_map, List.map_cons, List.map_map]
  congr 1
  apply List.map_congr_left
  intro i hi
  simp only [Function.comp]
  congr 3
  omega
theorem conv_one' (w : World) (z : Int) (c : UInt8) (hz : (c.toNat : Int) = z) : (convert 51 9 (.slice (some ⟨w.heap.size, 0, none⟩) 1 1)).run Tryd.prog (w.alloc (.cells #[.int .u8 z] 5)) = .ok (.string (str [c])) (w.alloc (.cells #[.int .u8 z] 5)) :=
  run_convert_bytes_back _ 51 9 5 ⟨w.heap.size, 0, none⟩ 1 [c] Tryd.underlying51 Tryd.underlying5 Tryd.underlying9 (by
    intro j hj
    obtain rfl : j = 0 := by simpa using hj
    rw [show (⟨w.heap.size, 0, none⟩ : Addr).add 0 = ⟨w.heap.size, 0, none⟩ from rfl, new_cell0, ← hz]
    rfl)
theorem ref4Of_any (n : Nat) (w : World) (hn : n < 18446744073709551616) :
    Calls Tryd.prog 9 #[.int .u64 (n : Int)] w fun e w' => e = .returned (.string (enc n)) ∧ Below w.heap.size w w' := by
  have hb8 : blen n ≤ 8 := (blen_le_iff n 8).2 (by omega)
  go_enter Tryd.func9, Tryd.ntmps9
  go_wp2_with fail
  go_loopw [0, 3] (fun x s wr => ∃ k : Nat, k ≤ blen n ∧ x = .int .u64 ((n / 256 ^ k : Nat) : Int) ∧ s = .string (str (bytesL k n)) ∧ Below w.heap.size w wr)
    (fun x _ _ => (intOf x).toNat)
  case atStart => exact ⟨0, by omega, by simp, rfl, Below.refl _ _⟩
  case round =>
    obtain ⟨k, hk, rfl, rfl, hb⟩ := hrel
    have hq : n / 256 ^ k ≤ n := Nat.div_le_self _ _
    have hsz : (str (bytesL k n)).size = k := by rw [size_str, length_bytesL]
    obtain ⟨Q, hQ⟩ : ∃ Q, n / 256 ^ k = Q := ⟨_, rfl⟩
    have hcv := conv_one' wr ((Q : Int) % 256) (UInt8.ofNat Q) (by rw [UInt8.toNat_ofNat']; simp)
    rw [hQ] at hq ⊢
    have hs1 : (str [UInt8.ofNat Q]).size = 1 := size_str _
    by_cases hz : Q = 0
    · have hke : k = blen n := by
        have : blen n ≤ k := by
          rw [blen_le_iff]
          rcases Nat.lt_or_ge n (256 ^ k) with h | h
          · exact h
          · have := Nat.div_pos h (Nat.pow_pos (n := k) (by omega : 0 < 256)); omega
        omega
      have hfin : str (bytesL k n) = enc n := by rw [hke]; rfl
      have HF := Lib.hid hfin
      subst hz
      clear hfin hke hcv hQ
      go_wp2_with fail
      go_ret
      exact ⟨ret_str (by rw [HF.out]), hb⟩
    · have hklt : k < blen n := by
        rcases Nat.lt_or_ge k (blen n) with h | h
        · exact h
        · have h1 := (blen_le_iff n k).1 h
          rw [Nat.div_eq_of_lt h1] at hQ; omega
      have hn2 : n / 256 ^ (k + 1) = Q / 256 := by rw [Nat.pow_succ, ← Nat.div_div_eq_div_mul, hQ]
      have hbl : str [UInt8.ofNat Q] ++ str (bytesL k n) = str (bytesL (k + 1) n) := by rw [str_append, bytesL_cons', hQ]; rfl
      have HN2 := Lib.hid hn2
      have HBL := Lib.hid hbl
      clear hn2 hbl hQ
      go_wp2_with fail
      exact ⟨⟨k + 1, by omega, by rw [HN2.out]; simp, by rw [HBL.out], hb.alloc hb.size _⟩, by simp [intOf]; omega⟩
end Go.Proofs.YtjminjliomffaaaDoor

/- Contracts: prime.Next, Safe and dominoref04 Is, NextU, Next, Safe. -/
namespace Go.Proofs.YtjminjliomffaaaDoor
open Go.RowKit Num
set_option maxRecDepth 20000
set_option linter.unusedVariables false

namespace Num
/-- the least number that passes the test, among the f next ones -/
def nextF : Nat → Nat → Option Nat
  | 0, _ => none
  | f + 1, n => if isB (n + 1) = true then some (n + 1) else nextF f (n + 1)
def nextP (n : Nat) : Option Nat := nextF (18446744073709551615 - n) n
theorem nextP_none : nextP 18446744073709551615 = none := rfl
theorem nextP_step {n : Nat} (h : n < 18446744073709551615) : nextP n = if isB (n + 1) = true then some (n + 1) else nextP (n + 1) := by
  unfold nextP
  obtain ⟨k, hk⟩ : ∃ k, 18446744073709551615 - n = k + 1 := ⟨18446744073709551615 - n - 1, by omega⟩
  rw [hk, show 18446744073709551615 - (n + 1) = k from by omega]
  rfl
theorem nextF_spec : ∀ (f n p : Nat), nextF f n = some p → n < p ∧ p ≤ n + f ∧ isB p = true ∧ ∀ m, n < m → m < p → isB m = false
  | 0, n, p, h => by cases h
  | f + 1, n, p, h => by
    unfold nextF at h
    by_cases hb : isB (n + 1) = true
    · rw [if_pos hb] at h
      cases h
      exact ⟨by omega, by omega, hb, fun m h1 h2 => by omega⟩
    · rw [if_neg hb] at h
      obtain ⟨h1, h2, h3, h4⟩ := nextF_spec f (n + 1) p h
      refine ⟨by omega, by omega, h3, fun m h5 h6 => ?_⟩
      by_cases e : m = n + 1
      · subst e; simpa using hb
      · exact h4 m (by omega) h6
end Num
/-- the number that Next returns, and its error -/
def nxS (s : ByteArray) : ByteArray := if okN s = true then (match nextP (nv s) with | some p => enc p | none => ⟨#[]⟩) else ⟨#[]⟩
def nxE (s : ByteArray) : Int := if okN s = true then (match nextP (nv s) with | some p => 0 | none => 5) else smE s
set_option maxHeartbeats 1000000 in
theorem prNext_any (s : ByteArray) (w : World) (hT : Tab w) :
    Calls Tryd.prog 22 #[.string s] w fun e w' => e = .returned (.tuple #[.string (nxS s), .int .i64 (nxE s)]) ∧ Below w.heap.size w w' := by
  rcases cls s with ⟨h1, h2, h3⟩ | ⟨h1, h8, h2, h3⟩ | ⟨h1, h8, hlt, h2, h3⟩
  · have e1 : nxS s = ⟨#[]⟩ := by unfold nxS; rw [h3]; rfl
    have e2 : nxE s = 3 := by unfold nxE; rw [h3, h2]; rfl
    rw [e1, e2]
    have H1 := Lib.hid h1
    clear h1 h2 h3 e1 e2
    go_enter Tryd.func22, Tryd.ntmps22
    go_wp2_with fail
    refine (prsmall_bad _ _ H1.out).mono ?_; rintro e w' ⟨rfl, rfl⟩
    go_wp2_with fail
    go_ret2
    exact ⟨rfl, Below.refl _ _⟩
  · have e1 : nxS s = ⟨#[]⟩ := by unfold nxS; rw [h3]; rfl
    have e2 : nxE s = 5 := by unfold nxE; rw [h3, h2]; rfl
    rw [e1, e2]
    have H1 := Lib.hid (And.intro h1 h8)
    clear h1 h2 h3 e1 e2 h8
    go_enter Tryd.func22, Tryd.ntmps22
    go_wp2_with fail
    refine (prsmall_long _ _ H1.out.1 H1.out.2).mono ?_; rintro e w' ⟨rfl, rfl⟩
    go_wp2_with fail
    go_ret2
    exact ⟨rfl, Below.refl _ _⟩
  · have e1 : nxS s = (match nextP (nv s) with | some p => enc p | none => ⟨#[]⟩) := by unfold nxS; rw [h3]; rfl
    have e2 : nxE s = (match nextP (nv s) with | some p => 0 | none => 5) := by unfold nxE; rw [h3]; rfl
    have E1 := Lib.hid e1
    have E2 := Lib.hid e2
    have H1 := Lib.hid (And.intro h1 h8)
    have HT := Lib.hid hT
    clear h1 h2 h3 e1 e2 h8 hT
    go_enter Tryd.func22, Tryd.ntmps22
    go_wp2_with fail
    refine (prsmall_ok _ _ H1.out.1 H1.out.2).mono ?_; rintro e w' ⟨rfl, rfl⟩
    obtain ⟨n, hn⟩ : ∃ n, nv s = n := ⟨_, rfl⟩
    rw [hn] at hlt E1 E2 ⊢
    clear hn
    go_wp2_with fail
    go_loopw [4] (fun v wr => ∃ x : Nat, v = .int .u64 (x : Int) ∧ n ≤ x ∧ x ≤ 18446744073709551615 ∧ Hid (nextP x = nextP n) ∧ Below w.heap.size w wr) (fun v _ => (18446744073709551615 - intOf v).toNat)
    case atStart => exact ⟨n, rfl, by omega, by omega, rfl, Below.refl _ _⟩
    case round =>
      obtain ⟨x, rfl, hx1, hx2, hx3, hb⟩ := hrel
      have zb := hb.size
      by_cases hx : x < 18446744073709551615
      · have st := nextP_step hx
        have d1 : decide ((x : Int) < 18446744073709551615) = true := by rw [decide_eq_true_eq]; omega
        have o1 : IntKind.u64.wrap ((x : Int) + 1) = ((x + 1 : Nat) : Int) := by rw [wraps_u64 _ (by omega) (by omega)]; omega
        have ST := Lib.hid st
        have hx4 : x + 1 < 18446744073709551616 := by omega
        have HX := Lib.hid hx4
        clear st hx4
        go_wp2_with fail
        refine (is_any (x + 1) _ HX.out (HT.out.below hb)).mono ?_
        rintro e w1 ⟨rfl, hb1⟩
        have hb2 := hb.trans (hb1.mono zb)
        rcases Bool.eq_false_or_eq_true (isB (x + 1)) with hs | hs
        · have hfin : nextP n = some (x + 1) := by rw [← hx3.out, ST.out, if_pos hs]
          rw [hfin] at E1 E2
          rw [hs]
          clear hs hfin o1 d1
          have zc := hb2.size
          go_wp2_with fail
          refine (Of_any (x + 1) _ HX.out).mono ?_
          rintro e w2 ⟨rfl, hb3⟩
          go_wp2_with fail
          go_ret2
          rw [E1.out, E2.out]
          exact ⟨rfl, hb2.trans (hb3.mono zc)⟩
        · have hfin : nextP (x + 1) = nextP n := by rw [← hx3.out, ST.out, if_neg (by rw [hs]; simp)]
          have HF := Lib.hid hfin
          rw [hs]
          clear hs hfin o1 d1
          go_wp2_with fail
          exact ⟨⟨x + 1, by go_num, by omega, by omega, HF.out, hb2⟩, by simp [intOf]; omega⟩
      · obtain rfl : x = 18446744073709551615 := by omega
        have hfin : nextP n = none := by rw [← hx3.out, nextP_none]
        rw [hfin] at E1 E2
        clear hfin hx3 hlt hx1 hx2
        go_wp2_with fail
        go_ret2
        rw [E1.out, E2.out]
        exact ⟨rfl, hb⟩

theorem prSafe_any (s : ByteArray) (w : World) (hT : Tab w) :
    Calls Tryd.prog 23 #[.string s] w fun e w' => e = .returned (.tuple #[.bool (sfS s), .int .i64 (smE s)]) ∧ Below w.heap.size w w' := by
  rcases cls s with ⟨h1, h2, h3⟩ | ⟨h1, h8, h2, h3⟩ | ⟨h1, h8, hlt, h2, h3⟩
  · have e1 : sfS s = false := by unfold sfS; rw [h3]; rfl
    rw [e1, h2]
    have H1 := Lib.hid h1
    clear h1 h2 h3 e1
    go_enter Tryd.func23, Tryd.ntmps23
    go_wp2_with fail
    refine (prsmall_bad _ _ H1.out).mono ?_; rintro e w' ⟨rfl, rfl⟩
    go_wp2_with fail
    go_ret2
    exact ⟨rfl, Below.refl _ _⟩
  · have e1 : sfS s = false := by unfold sfS; rw [h3]; rfl
    rw [e1, h2]
    have H1 := Lib.hid (And.intro h1 h8)
    clear h1 h2 h3 e1 h8
    go_enter Tryd.func23, Tryd.ntmps23
    go_wp2_with fail
    refine (prsmall_long _ _ H1.out.1 H1.out.2).mono ?_; rintro e w' ⟨rfl, rfl⟩
    go_wp2_with fail
    go_ret2
    exact ⟨rfl, Below.refl _ _⟩
  · have e1 : sfS s = (isB (nv s) && isB ((nv s - 1) / 2)) := by unfold sfS; rw [h3]; rfl
    rw [e1, h2]
    have H1 := Lib.hid (And.intro h1 h8)
    clear h1 h2 h3 e1 h8
    obtain ⟨n, hn⟩ : ∃ n, nv s = n := ⟨_, rfl⟩
    have HN := Lib.hid hn
    rw [hn] at hlt ⊢
    clear hn
    rcases Bool.eq_false_or_eq_true (isB n) with hs | hs
    · have h2n : 2 ≤ n := by
        rcases Nat.lt_or_ge n 2 with h | h
        · rw [isB_small h] at hs; cases hs
        · exact h
      have HL := Lib.hid hlt
      have hl2 : (n - 1) / 2 < 18446744073709551616 := by omega
      have HL2 := Lib.hid hl2
      have hc : ((n : Int) - 1) / 2 = (((n - 1) / 2 : Nat) : Int) := by omega
      have HC := Lib.hid hc
      have HS := Lib.hid hs
      clear hc hs
      rw [show (isB n && isB ((n - 1) / 2)) = isB ((n - 1) / 2) from by rw [HS.out]; rfl]
      go_enter Tryd.func23, Tryd.ntmps23
      go_wp2_with fail
      refine (prsmall_ok _ _ H1.out.1 H1.out.2).mono ?_; rintro e w' ⟨rfl, rfl⟩
      rw [HN.out]
      go_wp2_with fail
      refine (is_any n _ HL.out hT).mono ?_; rintro e w1 ⟨rfl, hb⟩
      rw [HS.out]
      go_wp2_with fail
      rw [HC.out]
      refine (is_any ((n - 1) / 2) _ HL2.out (hT.below hb)).mono ?_; rintro e w2 ⟨rfl, hb2⟩
      go_wp2_with fail
      go_ret2
      exact ⟨rfl, hb.trans (hb2.mono hb.size)⟩
    · have HL := Lib.hid hlt
      have HS := Lib.hid hs
      clear hs
      rw [show (isB n && isB ((n - 1) / 2)) = false from by rw [HS.out]; rfl]
      go_enter Tryd.func23, Tryd.ntmps23
      go_wp2_with fail
      refine (prsmall_ok _ _ H1.out.1 H1.out.2).mono ?_; rintro e w' ⟨rfl, rfl⟩
      rw [HN.out]
      go_wp2_with fail
      refine (is_any n _ HL.out hT).mono ?_; rintro e w1 ⟨rfl, hb⟩
      rw [HS.out]
      go_wp2_with fail
      go_ret2
      exact ⟨rfl, hb⟩
end Go.Proofs.YtjminjliomffaaaDoor
