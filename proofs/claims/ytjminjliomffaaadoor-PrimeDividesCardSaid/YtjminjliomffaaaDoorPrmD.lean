/- Contracts: prime.small, Is, Next, Safe, and dominoref04 Formed, U, Of, IsU, Is, NextU, Next, Safe. -/
import Derived.Test.YtjminjliomffaaaDoorPrmC
import Derived.Test.YtjminjliomffaaaDoorNatE
namespace Go.Proofs.YtjminjliomffaaaDoor
open Go.RowKit Num
set_option maxRecDepth 20000
set_option linter.unusedVariables false

/-- the error of a number that must be short -/
def smE (s : ByteArray) : Int := if validB s = true then (if s.size ≤ 8 then 0 else 5) else 3
def okN (s : ByteArray) : Bool := validB s && decide (s.size ≤ 8)
def isS (s : ByteArray) : Bool := okN s && isB (nv s)
def sfS (s : ByteArray) : Bool := okN s && (isB (nv s) && isB ((nv s - 1) / 2))
theorem cls (s : ByteArray) : (validB s = false ∧ smE s = 3 ∧ okN s = false) ∨ (validB s = true ∧ 8 < s.size ∧ smE s = 5 ∧ okN s = false) ∨ (IsN s (nv s) ∧ s.size ≤ 8 ∧ nv s < 18446744073709551616 ∧ smE s = 0 ∧ okN s = true) := by
  by_cases hv : validB s = true
  · by_cases h8 : s.size ≤ 8
    · refine .inr (.inr ⟨isN_of_valid hv, h8, ?_, by unfold smE; rw [if_pos hv, if_pos h8], by unfold okN; rw [hv, decide_eq_true h8]; rfl⟩)
      have h1 := nv_lt s
      have h2 : 256 ^ s.size ≤ 256 ^ 8 := Nat.pow_le_pow_right (by omega) h8
      omega
    · exact .inr (.inl ⟨hv, by omega, by unfold smE; rw [if_pos hv, if_neg h8], by unfold okN; rw [hv, decide_eq_false h8]; rfl⟩)
  · have hv2 : validB s = false := by simpa using hv
    exact .inl ⟨hv2, by unfold smE; rw [if_neg hv], by unfold okN; rw [hv2]; rfl⟩
theorem prsmall_bad (s : ByteArray) (w : World) (h : validB s = false) :
    Calls Tryd.prog 19 #[.string s] w fun e w' => e = .returned (.tuple #[.int .u64 0, .int .i64 3]) ∧ w = w' := by
  have H := Lib.hid h
  clear h
  go_enter Tryd.func19, Tryd.ntmps19
  go_wp2_with (go_at_call 26; refine (Valid_any _ _).mono ?_; rw [H.out]; rintro e w' ⟨rfl, rfl⟩)
  go_ret2
  exact ⟨rfl, rfl⟩
theorem prsmall_long (s : ByteArray) (w : World) (h : validB s = true) (h8 : 8 < s.size) :
    Calls Tryd.prog 19 #[.string s] w fun e w' => e = .returned (.tuple #[.int .u64 0, .int .i64 5]) ∧ w = w' := by
  have hn := isN_of_valid h
  have hd : decide (blen (nv s) ≤ 8) = false := decide_eq_false (by rw [← hn.size]; omega)
  have HN := Lib.hid hn
  have HD := Lib.hid hd
  clear h h8 hn hd
  go_enter Tryd.func19, Tryd.ntmps19
  go_wp2_with fail
  refine (Valid_yes _ _ _ HN.out).mono ?_; rintro e w' ⟨rfl, rfl⟩
  go_wp2_with fail
  refine (Small_any _ _ _ HN.out).mono ?_; rintro e w' ⟨rfl, rfl⟩
  rw [HD.out]
  go_wp2_with fail
  go_ret2
  exact ⟨rfl, rfl⟩
theorem prsmall_ok (s : ByteArray) (w : World) (h : IsN s (nv s)) (h8 : s.size ≤ 8) :
    Calls Tryd.prog 19 #[.string s] w fun e w' => e = .returned (.tuple #[.int .u64 ((nv s : Nat) : Int), .int .i64 0]) ∧ w = w' := by
  have hd : decide (blen (nv s) ≤ 8) = true := decide_eq_true (by rw [← h.size]; omega)
  have hs := sm_short (show blen (nv s) ≤ 8 by rw [← h.size]; omega)
  have HN := Lib.hid h
  have HD := Lib.hid hd
  have HS := Lib.hid hs
  clear h h8 hd hs
  go_enter Tryd.func19, Tryd.ntmps19
  go_wp2_with fail
  refine (Valid_yes _ _ _ HN.out).mono ?_; rintro e w' ⟨rfl, rfl⟩
  go_wp2_with fail
  refine (Small_any _ _ _ HN.out).mono ?_; rintro e w' ⟨rfl, rfl⟩
  rw [HD.out, HS.out]
  go_wp2_with fail
  go_ret2
  exact ⟨rfl, rfl⟩
theorem ret_ib {b c : Bool} {k : IntKind} {x y : Int} (h : x = y) (g : b = c) : Ending.returned (.tuple #[.int k x, .bool b]) = .returned (.tuple #[.int k y, .bool c]) := by rw [h, g]
theorem ret_bi {b c : Bool} {k : IntKind} {x y : Int} (h : b = c) (g : x = y) : Ending.returned (.tuple #[.bool b, .int k x]) = .returned (.tuple #[.bool c, .int k y]) := by rw [h, g]
theorem prIs_any (s : ByteArray) (w : World) (hT : Tab w) :
    Calls Tryd.prog 8 #[.string s] w fun e w' => e = .returned (.tuple #[.bool (isS s), .int .i64 (smE s)]) ∧ Below w.heap.size w w' := by
  rcases cls s with ⟨h1, h2, h3⟩ | ⟨h1, h8, h2, h3⟩ | ⟨h1, h8, hlt, h2, h3⟩
  · have e1 : isS s = false := by unfold isS; rw [h3]; rfl
    rw [e1, h2]
    have H1 := Lib.hid h1
    clear h1 h2 h3 e1
    go_enter Tryd.func8, Tryd.ntmps8
    go_wp2_with fail
    refine (prsmall_bad _ _ H1.out).mono ?_; rintro e w' ⟨rfl, rfl⟩
    go_wp2_with fail
    go_ret2
    exact ⟨rfl, Below.refl _ _⟩
  · have e1 : isS s = false := by unfold isS; rw [h3]; rfl
    rw [e1, h2]
    have H1 := Lib.hid (And.intro h1 h8)
    clear h1 h2 h3 e1 h8
    go_enter Tryd.func8, Tryd.ntmps8
    go_wp2_with fail
    refine (prsmall_long _ _ H1.out.1 H1.out.2).mono ?_; rintro e w' ⟨rfl, rfl⟩
    go_wp2_with fail
    go_ret2
    exact ⟨rfl, Below.refl _ _⟩
  · have e1 : isS s = isB (nv s) := by unfold isS; rw [h3]; rfl
    rw [e1, h2]
    have H1 := Lib.hid (And.intro h1 h8)
    have HL := Lib.hid hlt
    clear h1 h2 h3 e1 h8 hlt
    go_enter Tryd.func8, Tryd.ntmps8
    go_wp2_with fail
    refine (prsmall_ok _ _ H1.out.1 H1.out.2).mono ?_; rintro e w' ⟨rfl, rfl⟩
    go_wp2_with fail
    refine (is_any (nv s) _ HL.out hT).mono ?_; rintro e w' ⟨rfl, hb⟩
    go_wp2_with fail
    go_ret2
    exact ⟨rfl, hb⟩

theorem bytesL_cons' (k n : Nat) : bytesL (k + 1) n = UInt8.ofNat (n / 256 ^ k) :: bytesL k n := by
  unfold bytesL
  rw [List.range_succ_eq_map, List.map_cons, List.map_map]
  congr 1
  apply List.map_congr_left
  intro i hi
  simp only [Function.comp]
  congr 3
  omega
theorem conv_one' (w : World) (z : Int) (c : UInt8) (hz : (c.toNat : Int) = z) : (convert 51 9 (.slice (some ⟨w.heap.size, 0, none⟩) 1 1)).run Tryd.prog (w.alloc (.cells #[.int .u8 z] 5)) = .ok (.string (str [c])) (w.alloc (.cells #[.int .u8 z] 5)) :=
  run_convert_bytes_back _ 51 9 5 ⟨w.heap.size, 0, none⟩ 1 [c] Tryd.underlying51 Tryd.underlying5 Tryd.underlying9 (by
    intro j hj
    obtain rfl : j = 0 := by simpa using hj
    rw [show (⟨w.heap.size, 0, none⟩ : Addr).add 0 = ⟨w.heap.size, 0, none⟩ from rfl, new_cell0, ← hz]
    rfl)
theorem ref4Of_any (n : Nat) (w : World) (hn : n < 18446744073709551616) :
    Calls Tryd.prog 9 #[.int .u64 (n : Int)] w fun e w' => e = .returned (.string (enc n)) ∧ Below w.heap.size w w' := by
  have hb8 : blen n ≤ 8 := (blen_le_iff n 8).2 (by omega)
  go_enter Tryd.func9, Tryd.ntmps9
  go_wp2_with fail
  go_loopw [0, 3] (fun x s wr => ∃ k : Nat, k ≤ blen n ∧ x = .int .u64 ((n / 256 ^ k : Nat) : Int) ∧ s = .string (str (bytesL k n)) ∧ Below w.heap.size w wr)
    (fun x _ _ => (intOf x).toNat)
  case atStart => exact ⟨0, by omega, by simp, rfl, Below.refl _ _⟩
  case round =>
    obtain ⟨k, hk, rfl, rfl, hb⟩ := hrel
    have hq : n / 256 ^ k ≤ n := Nat.div_le_self _ _
    have hsz : (str (bytesL k n)).size = k := by rw [size_str, length_bytesL]
    obtain ⟨Q, hQ⟩ : ∃ Q, n / 256 ^ k = Q := ⟨_, rfl⟩
    have hcv := conv_one' wr ((Q : Int) % 256) (UInt8.ofNat Q) (by rw [UInt8.toNat_ofNat']; simp)
    rw [hQ] at hq ⊢
    have hs1 : (str [UInt8.ofNat Q]).size = 1 := size_str _
    by_cases hz : Q = 0
    · have hke : k = blen n := by
        have : blen n ≤ k := by
          rw [blen_le_iff]
          rcases Nat.lt_or_ge n (256 ^ k) with h | h
          · exact h
          · have := Nat.div_pos h (Nat.pow_pos (n := k) (by omega : 0 < 256)); omega
        omega
      have hfin : str (bytesL k n) = enc n := by rw [hke]; rfl
      have HF := Lib.hid hfin
      subst hz
      clear hfin hke hcv hQ
      go_wp2_with fail
      go_ret
      exact ⟨ret_str (by rw [HF.out]), hb⟩
    · have hklt : k < blen n := by
        rcases Nat.lt_or_ge k (blen n) with h | h
        · exact h
        · have h1 := (blen_le_iff n k).1 h
          rw [Nat.div_eq_of_lt h1] at hQ; omega
      have hn2 : n / 256 ^ (k + 1) = Q / 256 := by rw [Nat.pow_succ, ← Nat.div_div_eq_div_mul, hQ]
      have hbl : str [UInt8.ofNat Q] ++ str (bytesL k n) = str (bytesL (k + 1) n) := by rw [str_append, bytesL_cons', hQ]; rfl
      have HN2 := Lib.hid hn2
      have HBL := Lib.hid hbl
      clear hn2 hbl hQ
      go_wp2_with fail
      exact ⟨⟨k + 1, by omega, by rw [HN2.out]; simp, by rw [HBL.out], hb.alloc hb.size _⟩, by simp [intOf]; omega⟩
end Go.Proofs.YtjminjliomffaaaDoor
