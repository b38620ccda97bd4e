import Derived.Test.YtdlbnioidfhhcaaGreatInv
import Derived.Test.YtdlbnioidfhhcaaGreatNatH
import Derived.Test.YtdlbnioidfhhcaaGreatExp
import Derived.Deep.RegionHeld3
import Derived.Test.YtdlbnioidfhhcaaGreatInt
import Derived.Test.YtdlbnioidfhhcaaGreatMod
/- Plain facts of layer 13: groups, elements, products of powers. No program in sight. -/
namespace Go.Proofs.YtdlbnioidfhhcaaGreat
namespace Num
/-- an element of a well-formed group -/
def elN (m o x : Nat) : Bool := decide (x ≠ 0 ∧ x < m) && decide (if o = 0 then Nat.gcd x m = 1 else x ^ o % m = 1)
theorem elN_iff {m o x : Nat} : elN m o x = true ↔ (x ≠ 0 ∧ x < m) ∧ (if o = 0 then Nat.gcd x m = 1 else x ^ o % m = 1) := by
  unfold elN; rw [Bool.and_eq_true, decide_eq_true_eq, decide_eq_true_eq]
theorem el_lt {m o x : Nat} (h : elN m o x = true) : x < m := (elN_iff.1 h).1.2
theorem el_pos {m o x : Nat} (h : elN m o x = true) : 0 < x := by have := (elN_iff.1 h).1.1; omega
theorem el_unit {m o x : Nat} (h : elN m o x = true) : Nat.gcd x m = 1 := by
  have h1 := (elN_iff.1 h).2
  by_cases h0 : o = 0
  · rwa [if_pos h0] at h1
  · rw [if_neg h0] at h1
    have d1 : Nat.gcd x m ∣ x ^ o := by
      obtain ⟨k, rfl⟩ : ∃ k, o = k + 1 := ⟨o - 1, by omega⟩
      rw [Nat.pow_succ]
      exact Nat.dvd_trans (Nat.gcd_dvd_left x m) (Nat.dvd_mul_left _ _)
    have d2 : Nat.gcd x m ∣ x ^ o % m := (Nat.dvd_mod_iff (Nat.gcd_dvd_right x m)).2 d1
    rw [h1] at d2
    exact Nat.dvd_one.1 d2
/-- the base of a power with a sign -/
def sb (m x : Nat) (ng : Bool) : Nat := if ng = true then invm x m else x
/-- a product of powers -/
def pr : List (Nat × Nat) → Nat
  | [] => 1
  | p :: l => p.1 ^ p.2 * pr l
theorem pr_append : ∀ (l k : List (Nat × Nat)), pr (l ++ k) = pr l * pr k
  | [], k => by simp [pr]
  | p :: l, k => by simp only [List.cons_append, pr, pr_append l k, Nat.mul_assoc]
/-- the exponents divided by a power of 2 -/
def sh (j : Nat) (l : List (Nat × Nat)) : List (Nat × Nat) := l.map fun p => (p.1, p.2 / 2 ^ j)
/-- twice the exponents divided by a power of 2 -/
def sh2 (j : Nat) (l : List (Nat × Nat)) : List (Nat × Nat) := l.map fun p => (p.1, 2 * (p.2 / 2 ^ j))
theorem pr_sh2 (j : Nat) : ∀ l : List (Nat × Nat), pr (sh2 j l) = pr (sh j l) * pr (sh j l)
  | [] => rfl
  | p :: l => by
    show p.1 ^ (2 * (p.2 / 2 ^ j)) * pr (sh2 j l) = p.1 ^ (p.2 / 2 ^ j) * pr (sh j l) * (p.1 ^ (p.2 / 2 ^ j) * pr (sh j l))
    rw [pr_sh2 j l, Nat.two_mul, Nat.pow_add]
    simp only [Nat.mul_assoc, Nat.mul_left_comm, Nat.mul_comm]
theorem pr_sh_zero {j : Nat} : ∀ {l : List (Nat × Nat)}, (∀ p ∈ l, p.2 < 2 ^ j) → pr (sh j l) = 1
  | [], _ => rfl
  | p :: l, h => by
    show p.1 ^ (p.2 / 2 ^ j) * pr (sh j l) = 1
    rw [Nat.div_eq_of_lt (h p (by simp)), pr_sh_zero fun q hq => h q (by simp [hq])]
    simp
theorem sh_0 (l : List (Nat × Nat)) : sh 0 l = l := by
  unfold sh
  simp
theorem bl_top {e : Nat} (h : blen e ≤ 128) : bl e ≤ 1024 := by
  have h1 : bl e ≤ 8 * blen e := by rw [bl_le_iff, Nat.pow_mul]; exact lt_blen e
  omega
/-- the product while bit j is under way, behind k bases -/
def mid (j k : Nat) (l : List (Nat × Nat)) : Nat := pr (sh j (l.take k)) * pr (sh2 (j + 1) (l.drop k))
theorem mid_0 (j : Nat) (l : List (Nat × Nat)) : mid j 0 l = pr (sh (j + 1) l) * pr (sh (j + 1) l) := by
  unfold mid
  rw [List.take_zero, List.drop_zero, ← pr_sh2]
  simp [sh, pr]
theorem mid_end (j : Nat) (l : List (Nat × Nat)) : mid j l.length l = pr (sh j l) := by
  unfold mid
  rw [List.take_length, List.drop_length]
  simp [sh2, pr]
theorem mid_step (j k : Nat) (l : List (Nat × Nat)) (hk : k < l.length) : mid j (k + 1) l = mid j k l * (if tb l[k].2 j = true then l[k].1 else 1) := by
  unfold mid
  have e1 : l.drop k = l[k] :: l.drop (k + 1) := List.drop_eq_getElem_cons hk
  have e2 : l.take (k + 1) = l.take k ++ [l[k]] := List.take_succ_eq_append_getElem hk
  rw [e1, e2]
  have e3 : pr (sh j (l.take k ++ [l[k]])) = pr (sh j (l.take k)) * l[k].1 ^ (l[k].2 / 2 ^ j) := by
    unfold sh; rw [List.map_append, pr_append]; simp [pr]
  have e4 : pr (sh2 (j + 1) (l[k] :: l.drop (k + 1))) = l[k].1 ^ (2 * (l[k].2 / 2 ^ (j + 1))) * pr (sh2 (j + 1) (l.drop (k + 1))) := rfl
  rw [e3, e4]
  have hb := half_bit l[k].2 j
  rw [tb_val] at hb
  cases ht : tb l[k].2 j
  · rw [ht] at hb
    have : l[k].2 / 2 ^ j = 2 * (l[k].2 / 2 ^ (j + 1)) := by simpa using hb
    rw [this]
    simp [Nat.mul_assoc]
  · rw [ht] at hb
    have : l[k].2 / 2 ^ j = 2 * (l[k].2 / 2 ^ (j + 1)) + 1 := by simpa using hb
    rw [this, Nat.pow_succ]
    simp only [if_true]
    simp only [Nat.mul_left_comm, Nat.mul_comm]
end Num
end Go.Proofs.YtdlbnioidfhhcaaGreat

/- power, primegroup, rsagroup: groups and elements. -/
namespace Go.Proofs.YtdlbnioidfhhcaaGreat
open Go.RowKit Num
set_option maxRecDepth 20000
set_option linter.unusedVariables false
/-- a variable of type Group -/
def GB (W : World) (b : Nat) (M O : ByteArray) : Prop := W.heap[b]? = some (.cells #[.string M, .string O] 26 (0, 0))
section
variable {W W' : World} {b : Nat} {M O : ByteArray}
theorem GB.lt (h : GB W b M O) : b < W.heap.size := (Array.getElem?_eq_some_iff.1 h).1
theorem GB.c0 (h : GB W b M O) : W.cell? ⟨b, 0, none⟩ = some (.string M) := by rw [Lib.cell_of_heap h]; rfl
theorem GB.c1 (h : GB W b M O) : W.cell? ⟨b, 1, none⟩ = some (.string O) := by rw [Lib.cell_of_heap h]; rfl
theorem GB.new (W : World) (M O : ByteArray) : GB (W.alloc (.cells #[.string M, .string O] 26)) W.heap.size M O := heap_alloc_new W _
theorem GB.below {K : Nat} (h : GB W b M O) (hb : Below K W W') (hB : b < K) : GB W' b M O := (hb.block b hB).trans h
theorem GB.alloc (h : GB W b M O) (o : Obj) : GB (W.alloc o) b M O := (Below.heap_alloc W o b h.lt).trans h
theorem GB.drew (h : GB W b M O) : GB W.drew b M O := h
end
theorem keepG {w w1 w2 : World} {M O : ByteArray} (h : w1.cell? ⟨w.heap.size, 0, none⟩ = some (.string M) ∧ w1.cell? ⟨w.heap.size, 1, none⟩ = some (.string O) ∧ GB w1 w.heap.size M O ∧ Below w.heap.size w w1) (b : Below w1.heap.size w1 w2) :
    w2.cell? ⟨w.heap.size, 0, none⟩ = some (.string M) ∧ w2.cell? ⟨w.heap.size, 1, none⟩ = some (.string O) ∧ GB w2 w.heap.size M O ∧ Below w.heap.size w w2 :=
  have N := h.2.2.1.below b h.2.2.1.lt
  ⟨N.c0, N.c1, N, h.2.2.2.trans (b.mono h.2.2.2.size)⟩
/-- the error of a group -/
def gE (M O : ByteArray) : Int := if validB M = true ∧ validB O = true then (if nv O = 0 then (if nv M % 2 = 1 ∧ 8 < nv M then 0 else 13) else if 2 ≤ nv M ∧ 2 ≤ nv O ∧ (nv M - 1) % nv O = 0 then 0 else 13) else 3
/-- an element -/
def hasB (M O x : ByteArray) : Bool := decide (gE M O = 0) && (validB x && elN (nv M) (nv O) (nv x))
theorem gE_cases (M O : ByteArray) : gE M O = 0 ∨ gE M O = 3 ∨ gE M O = 13 := by
  unfold gE
  split
  · split
    · split <;> simp
    · split <;> simp
  · simp
theorem gE_ok {M O : ByteArray} (h : gE M O = 0) : IsN M (nv M) ∧ IsN O (nv O) ∧ 2 ≤ nv M ∧ (nv O = 0 → nv M % 2 = 1 ∧ 8 < nv M) := by
  unfold gE at h
  split at h
  · rename_i hv
    refine ⟨isN_of_valid hv.1, isN_of_valid hv.2, ?_⟩
    split at h
    · split at h
      · rename_i h1; exact ⟨by omega, fun _ => h1⟩
      · cases h
    · split at h
      · rename_i h0 h1; exact ⟨h1.1, fun h => absurd h h0⟩
      · cases h
  · cases h
theorem empty_of {s : ByteArray} (h : IsN s 0) : s = ⟨#[]⟩ := by rw [h.eq]; rfl
theorem ngt_dec {a b : Nat} : decide (ncmp a b ≤ 0) = decide (a ≤ b) := by
  have := ncmp_gt a b
  by_cases h : a ≤ b
  · rw [decide_eq_true h, decide_eq_true (by omega)]
  · rw [decide_eq_false h, decide_eq_false (by omega)]
theorem nlt_dec {a b : Nat} : decide (ncmp a b < 0) = decide (a < b) := by
  have := ncmp_lt a b
  by_cases h : a < b
  · rw [decide_eq_true h, decide_eq_true (by omega)]
  · rw [decide_eq_false h, decide_eq_false (by omega)]
theorem nge_dec {a b : Nat} : decide (0 ≤ ncmp a b) = decide (b ≤ a) := by
  have := ncmp_ge a b
  by_cases h : b ≤ a
  · rw [decide_eq_true h, decide_eq_true (by omega)]
  · rw [decide_eq_false h, decide_eq_false (by omega)]
theorem npos_dec {a b : Nat} : decide (0 < ncmp a b) = decide (b < a) := by
  have := ncmp_gt a b
  by_cases h : b < a
  · rw [decide_eq_true h, decide_eq_true (by omega)]
  · rw [decide_eq_false h, decide_eq_false (by omega)]
theorem isN8 : IsN (enc 8) 8 := IsN.mk' (by decide)
theorem isE1 : IsN (enc 1) 1 := IsN.mk' (by decide)
theorem isN2 : IsN (enc 2) 2 := IsN.mk' (by decide)
theorem isN0 : IsN ⟨#[]⟩ 0 := by have h := IsN.mk' (a := 0) (by decide); exact h
theorem tl_ne {s : ByteArray} (h0 : s.size ≠ 0) : (s.toList = [] → False) ∧ s.toList.isEmpty = false := by
  have h1 : s.toList ≠ [] := fun e => h0 (by
    rw [ByteArray.toList_eq] at e
    show s.data.size = 0
    rw [← Array.length_toList, e]; rfl)
  refine ⟨h1, ?_⟩
  cases hh : s.toList with
  | nil => exact absurd hh h1
  | cons a l => rfl
theorem ncmp3 (a b : Nat) : (a < b ∧ ncmp a b = -1) ∨ (a = b ∧ ncmp a b = 0) ∨ (b < a ∧ ncmp a b = 1) := by
  unfold ncmp
  rcases Nat.lt_trichotomy a b with h | h | h
  · exact .inl ⟨h, if_pos h⟩
  · exact .inr (.inl ⟨h, by rw [if_neg (by omega), if_neg (by omega)]⟩)
  · exact .inr (.inr ⟨h, by rw [if_neg (by omega), if_pos h]⟩)
theorem bit0_any (s : ByteArray) (a : Nat) (w : World) (hs : IsN s a) :
    Calls Tryz.prog 56 #[.string s, .int .i64 0] w fun e w' => e = .returned (.bool (decide (a % 2 = 1))) ∧ w = w' := by
  have h := Bit_any s a 0 w hs (by omega)
  have e : tb a 0 = decide (a % 2 = 1) := by unfold tb; simp
  rw [e] at h
  exact h
theorem of8 (w : World) : Calls Tryz.prog 38 #[.int .u64 8] w fun e w' => e = .returned (.string (enc 8)) ∧ Below w.heap.size w w' := Of_any 8 w (by omega)
theorem of2 (w : World) : Calls Tryz.prog 38 #[.int .u64 2] w fun e w' => e = .returned (.string (enc 2)) ∧ Below w.heap.size w w' := Of_any 2 w (by omega)
theorem of1 (w : World) : Calls Tryz.prog 38 #[.int .u64 1] w fun e w' => e = .returned (.string (enc 1)) ∧ Below w.heap.size w w' := Of_any 1 w (by omega)
/-- the cases of Check -/
theorem gCheck_bad (M O : ByteArray) (w : World) (h : ¬ (validB M = true ∧ validB O = true)) :
    Calls Tryz.prog 37 #[.agg #[.string M, .string O]] w fun e w' => e = .returned (.int .i64 3) ∧ Below w.heap.size w w' := by
  have hb := (Below.refl _ w).alloc (Nat.le_refl _) (.cells #[.string M, .string O] 26)
  cases hM : validB M
  · have HM := Lib.hid hM
    clear hM h
    go_enter Tryz.func37, Tryz.ntmps37
    go_wp2_with fail
    refine (Valid_any M _).mono ?_; rw [HM.out]; rintro e w1 ⟨rfl, rfl⟩
    go_wp2_with fail
    go_ret
    exact ⟨rfl, hb⟩
  · have hO : validB O = false := by simpa [hM] using h
    have HM := Lib.hid hM
    have HO := Lib.hid hO
    clear hM h hO
    go_enter Tryz.func37, Tryz.ntmps37
    go_wp2_with fail
    refine (Valid_any M _).mono ?_; rw [HM.out]; rintro e w1 ⟨rfl, rfl⟩
    go_wp2_with fail
    refine (Valid_any O _).mono ?_; rw [HO.out]; rintro e w1 ⟨rfl, rfl⟩
    go_wp2_with fail
    go_ret
    exact ⟨rfl, hb⟩
set_option maxHeartbeats 4000000 in
theorem gCheck_even (M : ByteArray) (m : Nat) (w : World) (hM : IsN M m) (h : m % 2 = 0) :
    Calls Tryz.prog 37 #[.agg #[.string M, .string ⟨#[]⟩]] w fun e w' => e = .returned (.int .i64 13) ∧ Below w.heap.size w w' := by
  have hb := (Below.refl _ w).alloc (Nat.le_refl _) (.cells #[.string M, .string ⟨#[]⟩] 26)
  have hG := GB.new w M ⟨#[]⟩
  have HM := Lib.hid hM
  have HV := Lib.hid (show validB ⟨#[]⟩ = true by decide +kernel)
  have u1 : decide (m % 2 = 1) = false := decide_eq_false (by omega)
  have HB0 : Hid (∀ w, Calls Tryz.prog 56 #[.string M, .int .i64 0] w fun e w' => e = .returned (.bool false) ∧ w' = w) := fun w => by have h := bit0_any M m w hM; rw [u1] at h; exact h.mono fun _ _ ⟨a, b⟩ => ⟨a, b.symm⟩
  clear hM h u1
  go_enter Tryz.func37, Tryz.ntmps37
  go_wp2_with fail
  generalize w.alloc _ = w0 at hb hG ⊢
  refine (Valid_any M _).mono ?_; rw [HM.out.valid]; rintro e w1 ⟨rfl, rfl⟩
  have c0 := hG.c0
  have c1 := hG.c1
  go_wp2_with fail
  refine (Valid_any _ _).mono ?_; rw [HV.out]; rintro e w1 ⟨rfl, rfl⟩
  go_wp2_with fail
  go_quiet ((go_at_call 56; exact Calls.quiet_of_same (HB0.out _)))
  have hq : Below w.heap.size w (w0.drewN nq) := below_drewN hb nq
  generalize w0.drewN nq = w2 at hq ⊢
  go_wp2_with fail
  go_ret
  exact ⟨rfl, hq⟩
set_option maxHeartbeats 4000000 in
theorem gCheck_odd (M : ByteArray) (m : Nat) (w : World) (hM : IsN M m) (h : m % 2 = 1) (E : Int) (hE : E = if 8 < m then 0 else 13) :
    Calls Tryz.prog 37 #[.agg #[.string M, .string ⟨#[]⟩]] w fun e w' => e = .returned (.int .i64 E) ∧ Below w.heap.size w w' := by
  have hb := (Below.refl _ w).alloc (Nat.le_refl _) (.cells #[.string M, .string ⟨#[]⟩] 26)
  have hG := GB.new w M ⟨#[]⟩
  have HM := Lib.hid hM
  have HV := Lib.hid (show validB ⟨#[]⟩ = true by decide +kernel)
  have u1 : decide (m % 2 = 1) = true := decide_eq_true (by omega)
  clear hM h
  rcases ncmp3 m 8 with ⟨h8, u2⟩ | ⟨h8, u2⟩ | ⟨h8, u2⟩
  all_goals
    have HE := Lib.hid (hE.trans (by first | exact if_pos h8 | exact if_neg (by omega)))
    clear hE h8
    go_enter Tryz.func37, Tryz.ntmps37
    go_wp2_with fail
    generalize w.alloc _ = w0 at hb hG ⊢
    refine (Valid_any M _).mono ?_; rw [HM.out.valid]; rintro e w1 ⟨rfl, rfl⟩
    have c0 := hG.c0
    have c1 := hG.c1
    go_wp2_with fail
    refine (Valid_any _ _).mono ?_; rw [HV.out]; rintro e w1 ⟨rfl, rfl⟩
    go_wp2_with fail
    go_region_held3 (fun w' => w'.cell? ⟨w.heap.size, 0, none⟩ = some (.string M) ∧ w'.cell? ⟨w.heap.size, 1, none⟩ = some (.string ⟨#[]⟩) ∧ GB w' w.heap.size M ⟨#[]⟩ ∧ Below w.heap.size w w')
      (first | exact ⟨c0, c1, hG, hb.drew⟩ | assumption | (refine keepG ?_ bn; assumption))
      (first
        | (go_at_call 56; (with_reducible refine (bit0_any M m _ HM.out).mono ?_); rw [u1]; rintro e wn ⟨rfl, rfl⟩)
        | (go_at_call 38; (with_reducible refine (of8 _).mono ?_); rintro e wn ⟨rfl, bn⟩)
        | (go_at_call 43; (with_reducible refine (Cmp_any M (enc 8) m 8 _ HM.out isN8).mono ?_); rw [u2]; rintro e wn ⟨rfl, rfl⟩))
    all_goals (go_split_ands; go_wp2_with fail; go_ret; exact ⟨ret_int HE.out.symm, by assumption⟩)
set_option maxHeartbeats 4000000 in
/-- the modulus 0 or 1: what is left of it is empty -/
theorem gCheck_small (M O : ByteArray) (o : Nat) (E : Int) (w : World) (hM : validB M = true) (hO : IsN O o) (h0 : 0 < o) (hE : E = 0 ∨ E = 2)
    (hS : ∀ w, Calls Tryz.prog 44 #[.string M, .string (enc 1)] w fun e w' => e = .returned (.tuple #[.string ⟨#[]⟩, .int .i64 E]) ∧ Below w.heap.size w w') :
    Calls Tryz.prog 37 #[.agg #[.string M, .string O]] w fun e w' => e = .returned (.int .i64 13) ∧ Below w.heap.size w w' := by
  have hb := (Below.refl _ w).alloc (Nat.le_refl _) (.cells #[.string M, .string O] 26)
  have hG := GB.new w M O
  have HO := Lib.hid hO
  have HM := Lib.hid hM
  have HS := Lib.hid hS
  obtain ⟨n1, n2⟩ := tl_ne (hO.pos h0)
  obtain ⟨S1, hS1⟩ : ∃ s, enc 1 = s := ⟨_, rfl⟩
  have HOF := Lib.hid of1
  rw [hS1] at HS HOF
  clear hO h0 hM hS hS1
  go_enter Tryz.func37, Tryz.ntmps37
  go_wp2_with fail
  generalize w.alloc _ = w0 at hb hG ⊢
  refine (Valid_any _ _).mono ?_; rw [HM.out]; rintro e w1 ⟨rfl, rfl⟩
  have c0 := hG.c0
  have c1 := hG.c1
  go_wp2_with fail
  refine (Valid_any _ _).mono ?_; rw [HO.out.valid]; rintro e w1 ⟨rfl, rfl⟩
  go_wp2_with fail
  go_cut [3, 4] from 32 (fun v3 v4 wc => v3 = .string ⟨#[]⟩ ∧ v4 = .int .i64 E ∧ Below w.heap.size w wc)
  case first =>
    go_region_held3 (fun w' => w'.cell? ⟨w.heap.size, 0, none⟩ = some (.string M) ∧ w'.cell? ⟨w.heap.size, 1, none⟩ = some (.string O) ∧ GB w' w.heap.size M O ∧ Below w.heap.size w w')
      (first | exact ⟨c0, c1, hG, hb.drew⟩ | assumption | (refine keepG ?_ bn; assumption))
      (first
        | (go_at_call 38; (with_reducible refine (HOF.out _).mono ?_); rintro e wn ⟨rfl, bn⟩)
        | (go_at_call 44; (with_reducible refine (HS.out _).mono ?_); rintro e wn ⟨rfl, bn⟩))
    all_goals (go_split_ands; go_wp2_with fail; go_meet; exact ⟨rfl, rfl, by assumption⟩)
  case rest =>
    clear hb hG c0 c1 HS HOF
    obtain ⟨rfl, rfl, hb⟩ := hcut
    rcases hE with rfl | rfl
    all_goals
      go_wp2_with fail
      go_quiet (fail)
      have hq := below_drewN hb nq
      generalize World.drewN _ nq = w2 at hq ⊢
      go_wp2_with fail
      go_ret
      exact ⟨rfl, hq⟩
set_option maxHeartbeats 4000000 in
/-- the modulus is at least 2, the order at least 1 -/
theorem gCheck_low (M O : ByteArray) (m : Nat) (w : World) (hM : IsN M m) (hO : IsN O 1) (h2 : 2 ≤ m) :
    Calls Tryz.prog 37 #[.agg #[.string M, .string O]] w fun e w' => e = .returned (.int .i64 13) ∧ Below w.heap.size w w' := by
  have hb := (Below.refl _ w).alloc (Nat.le_refl _) (.cells #[.string M, .string O] 26)
  have hG := GB.new w M O
  have HO := Lib.hid hO
  have HM := Lib.hid hM
  obtain ⟨n1, n2⟩ := tl_ne (hO.pos (by omega))
  obtain ⟨n3, n4⟩ := And.intro (notEmpty_enc (b := m - 1) (by omega)) (toList_enc_nil (b := m - 1) (by omega))
  have HS := Lib.hid (fun w => Sub_any M (enc 1) m 1 w hM isE1 (by omega))
  have u1 : ncmp 1 2 = -1 := rfl
  clear hO hM h2
  go_enter Tryz.func37, Tryz.ntmps37
  go_wp2_with fail
  generalize w.alloc _ = w0 at hb hG ⊢
  refine (Valid_any _ _).mono ?_; rw [HM.out.valid]; rintro e w1 ⟨rfl, rfl⟩
  have c0 := hG.c0
  have c1 := hG.c1
  go_wp2_with fail
  refine (Valid_any _ _).mono ?_; rw [HO.out.valid]; rintro e w1 ⟨rfl, rfl⟩
  go_wp2_with fail
  go_cut [3, 4] from 32 (fun v3 v4 wc => v3 = .string (enc (m - 1)) ∧ v4 = .int .i64 0 ∧ GB wc w.heap.size M O ∧ Below w.heap.size w wc)
  case first =>
    go_region_held3 (fun w' => w'.cell? ⟨w.heap.size, 0, none⟩ = some (.string M) ∧ w'.cell? ⟨w.heap.size, 1, none⟩ = some (.string O) ∧ GB w' w.heap.size M O ∧ Below w.heap.size w w')
      (first | exact ⟨c0, c1, hG, hb.drew⟩ | assumption | (refine keepG ?_ bn; assumption))
      (first
        | (go_at_call 38; (with_reducible refine (of1 _).mono ?_); rintro e wn ⟨rfl, bn⟩)
        | (go_at_call 44; (with_reducible refine (HS.out _).mono ?_); rintro e wn ⟨rfl, bn⟩))
    all_goals (go_split_ands; go_wp2_with fail; go_meet; exact ⟨rfl, rfl, by assumption, by assumption⟩)
  case rest =>
    clear hb hG c0 c1
    obtain ⟨rfl, rfl, hG, hb⟩ := hcut
    have c0 := hG.c0
    have c1 := hG.c1
    have z := hb.size
    go_wp2_with fail
    go_region_held3 (fun w' => w'.cell? ⟨w.heap.size, 0, none⟩ = some (.string M) ∧ w'.cell? ⟨w.heap.size, 1, none⟩ = some (.string O) ∧ GB w' w.heap.size M O ∧ Below w.heap.size w w')
      (first | exact ⟨c0, c1, hG, hb.drew⟩ | assumption | (refine keepG ?_ bn; assumption))
      (first
        | (go_at_call 38; (with_reducible refine (of2 _).mono ?_); rintro e wn ⟨rfl, bn⟩)
        | (go_at_call 43; (with_reducible refine (Cmp_any O (enc 2) 1 2 _ HO.out isN2).mono ?_); rw [u1]; rintro e wn ⟨rfl, rfl⟩))
    all_goals (go_split_ands; go_wp2_with fail; go_ret; exact ⟨rfl, by assumption⟩)
set_option maxHeartbeats 4000000 in
theorem gCheck_div' (M O : ByteArray) (m o : Nat) (w : World) (hM : IsN M m) (hO : IsN O o) (h2 : 2 ≤ m) (h3 : 2 ≤ o) (v : Int) (u1 : ncmp o 2 = v) (hv : v = 0 ∨ v = 1) (E : Int) (hE : E = if (m - 1) % o = 0 then 0 else 13) :
    Calls Tryz.prog 37 #[.agg #[.string M, .string O]] w fun e w' => e = .returned (.int .i64 E) ∧ Below w.heap.size w w' := by
  have hb := (Below.refl _ w).alloc (Nat.le_refl _) (.cells #[.string M, .string O] 26)
  have hG := GB.new w M O
  have HO := Lib.hid hO
  have HM := Lib.hid hM
  obtain ⟨n1, n2⟩ := tl_ne (hO.pos (by omega))
  obtain ⟨n3, n4⟩ := And.intro (notEmpty_enc (b := m - 1) (by omega)) (toList_enc_nil (b := m - 1) (by omega))
  have HS := Lib.hid (fun w => Sub_any M (enc 1) m 1 w hM isE1 (by omega))
  have hL : IsN (enc (m - 1)) (m - 1) := IsN.mk' (Nat.le_trans (blen_mono (by omega)) hM.le)
  have HD := Lib.hid (fun w => DivMod_any (enc (m - 1)) O (m - 1) o w hL hO (by omega))
  clear hO hM h2 h3 hL
  obtain ⟨r, hr⟩ : ∃ r, (m - 1) % o = r := ⟨_, rfl⟩
  rw [hr] at HD hE
  clear hr
  go_enter Tryz.func37, Tryz.ntmps37
  go_wp2_with fail
  generalize w.alloc _ = w0 at hb hG ⊢
  refine (Valid_any _ _).mono ?_; rw [HM.out.valid]; rintro e w1 ⟨rfl, rfl⟩
  have c0 := hG.c0
  have c1 := hG.c1
  go_wp2_with fail
  refine (Valid_any _ _).mono ?_; rw [HO.out.valid]; rintro e w1 ⟨rfl, rfl⟩
  go_wp2_with fail
  go_cut [3, 4] from 32 (fun v3 v4 wc => v3 = .string (enc (m - 1)) ∧ v4 = .int .i64 0 ∧ GB wc w.heap.size M O ∧ Below w.heap.size w wc)
  case first =>
    go_region_held3 (fun w' => w'.cell? ⟨w.heap.size, 0, none⟩ = some (.string M) ∧ w'.cell? ⟨w.heap.size, 1, none⟩ = some (.string O) ∧ GB w' w.heap.size M O ∧ Below w.heap.size w w')
      (first | exact ⟨c0, c1, hG, hb.drew⟩ | assumption | (refine keepG ?_ bn; assumption))
      (first
        | (go_at_call 38; (with_reducible refine (of1 _).mono ?_); rintro e wn ⟨rfl, bn⟩)
        | (go_at_call 44; (with_reducible refine (HS.out _).mono ?_); rintro e wn ⟨rfl, bn⟩))
    all_goals (go_split_ands; go_wp2_with fail; go_meet; exact ⟨rfl, rfl, by assumption, by assumption⟩)
  case rest =>
    clear hb hG c0 c1 HS
    obtain ⟨rfl, rfl, hG, hb⟩ := hcut
    have c0 := hG.c0
    have c1 := hG.c1
    have z := hb.size
    go_wp2_with fail
    go_cut [3, 4, 51] from 52 (fun v3 v4 v51 wc => v3 = .string (enc (m - 1)) ∧ v4 = .int .i64 0 ∧ v51 = .bool false ∧ GB wc w.heap.size M O ∧ Below w.heap.size w wc)
    case first =>
      rcases hv with rfl | rfl
      all_goals go_region_held3 (fun w' => w'.cell? ⟨w.heap.size, 0, none⟩ = some (.string M) ∧ w'.cell? ⟨w.heap.size, 1, none⟩ = some (.string O) ∧ GB w' w.heap.size M O ∧ Below w.heap.size w w')
        (first | exact ⟨c0, c1, hG, hb.drew⟩ | assumption | (refine keepG ?_ bn; assumption))
        (first
          | (go_at_call 38; (with_reducible refine (of2 _).mono ?_); rintro e wn ⟨rfl, bn⟩)
          | (go_at_call 43; (with_reducible refine (Cmp_any O (enc 2) o 2 _ HO.out isN2).mono ?_); rw [u1]; rintro e wn ⟨rfl, rfl⟩))
      all_goals (go_split_ands; go_wp2_with fail; go_meet; exact ⟨rfl, rfl, rfl, by assumption, by assumption⟩)
    case rest =>
      clear hb hG c0 c1 z u1
      obtain ⟨rfl, rfl, rfl, hG, hb⟩ := hcut
      have c0 := hG.c0
      have c1 := hG.c1
      have z := hb.size
      go_wp2_with fail
      refine (HD.out _).mono ?_; rintro e w2 ⟨rfl, b2⟩
      by_cases h0 : r = 0
      · subst h0
        have ez : enc 0 = ⟨#[]⟩ := rfl
        rw [ez]
        go_wp2_with fail
        go_ret
        exact ⟨ret_int (show E = 0 by simpa using hE).symm, hb.trans (b2.mono z)⟩
      · obtain ⟨k1, k2⟩ := And.intro (notEmpty_enc (b := r) (by omega)) (toList_enc_nil (b := r) (by omega))
        have HE := Lib.hid (hE.trans (if_neg h0))
        clear h0 hE
        go_wp2_with fail
        go_ret
        exact ⟨ret_int HE.out.symm, hb.trans (b2.mono z)⟩
theorem gCheck_div (M O : ByteArray) (m o : Nat) (w : World) (hM : IsN M m) (hO : IsN O o) (h2 : 2 ≤ m) (h3 : 2 ≤ o) (E : Int) (hE : E = if (m - 1) % o = 0 then 0 else 13) :
    Calls Tryz.prog 37 #[.agg #[.string M, .string O]] w fun e w' => e = .returned (.int .i64 E) ∧ Below w.heap.size w w' :=
  gCheck_div' M O m o w hM hO h2 h3 _ rfl (by rcases ncmp3 o 2 with ⟨h, _⟩ | ⟨_, h⟩ | ⟨_, h⟩; (· omega); (· exact .inl h); exact .inr h) E hE
theorem gCheck_any (M O : ByteArray) (w : World) :
    Calls Tryz.prog 37 #[.agg #[.string M, .string O]] w fun e w' => e = .returned (.int .i64 (gE M O)) ∧ Below w.heap.size w w' := by
  unfold gE
  by_cases h : validB M = true ∧ validB O = true
  · have hM := isN_of_valid h.1
    have hO := isN_of_valid h.2
    rw [if_pos h]
    clear h
    by_cases h0 : nv O = 0
    · rw [if_pos h0]
      have eO : O = ⟨#[]⟩ := by rw [h0] at hO; exact empty_of hO
      subst eO
      by_cases h1 : nv M % 2 = 1
      · refine gCheck_odd M (nv M) w hM h1 _ ?_
        simp only [h1, true_and]
      · rw [if_neg fun h => h1 h.1]
        exact gCheck_even M (nv M) w hM (by omega)
    · rw [if_neg h0]
      by_cases h1 : nv M = 0
      · rw [if_neg fun h => by omega]
        exact gCheck_small M O (nv O) 2 w hM.valid hO (by omega) (.inr rfl) fun w => (Sub_range M (enc 1) 0 1 w (by rw [h1] at hM; exact hM) isE1 (by omega)).mono fun _ _ ⟨a, b⟩ => ⟨a, b ▸ Below.refl _ _⟩
      by_cases h2 : nv M = 1
      · rw [if_neg fun h => by omega]
        exact gCheck_small M O (nv O) 0 w hM.valid hO (by omega) (.inl rfl) fun w => Sub_any M (enc 1) 1 1 w (by rw [h2] at hM; exact hM) isE1 (by omega)
      by_cases h3 : nv O = 1
      · rw [if_neg fun h => by omega]
        exact gCheck_low M O (nv M) w hM (by rw [h3] at hO; exact hO) (by omega)
      · refine gCheck_div M O (nv M) (nv O) w hM hO (by omega) (by omega) _ ?_
        by_cases h4 : (nv M - 1) % nv O = 0
        · rw [if_pos ⟨by omega, by omega, h4⟩, if_pos h4]
        · rw [if_neg fun h => h4 h.2.2, if_neg h4]
  · rw [if_neg h]
    exact gCheck_bad M O w h
theorem formed_yes (M O : ByteArray) (w : World) (hM : validB M = true) (hO : validB O = true) :
    Calls Tryz.prog 110 #[.agg #[.string M, .string O]] w fun e w' => e = .returned (.bool true) ∧ Below w.heap.size w w' := by
  have hb := (Below.refl _ w).alloc (Nat.le_refl _) (.cells #[.string M, .string O] 26)
  have HM := Lib.hid hM
  have HO := Lib.hid hO
  clear hM hO
  go_enter Tryz.func110, Tryz.ntmps110
  go_wp2_with fail
  refine (Valid_any _ _).mono ?_; rw [HM.out]; rintro e w1 ⟨rfl, rfl⟩
  go_wp2_with fail
  refine (Valid_any _ _).mono ?_; rw [HO.out]; rintro e w1 ⟨rfl, rfl⟩
  go_wp2_with fail
  go_ret
  exact ⟨rfl, hb⟩
set_option maxHeartbeats 4000000 in
theorem pgHas_any (M O s : ByteArray) (m o : Nat) (w : World) (hM : IsN M m) (hO : IsN O o) (h2 : 2 ≤ m) (h0 : 0 < o) :
    Calls Tryz.prog 85 #[.agg #[.string M, .string O], .string s] w fun e w' => e = .returned (.bool (validB s && elN m o (nv s))) ∧ Below w.heap.size w w' := by
  have hb := (Below.refl _ w).alloc (Nat.le_refl _) (.cells #[.string M, .string O] 26)
  have hG := GB.new w M O
  have HO := Lib.hid hO
  have HM := Lib.hid hM
  obtain ⟨n1, n2⟩ := tl_ne (hO.pos h0)
  have one : s.size = s.size := rfl
  by_cases hv : validB s = true
  rotate_left
  · have hv' : validB s = false := by simpa using hv
    have HV := Lib.hid hv'
    have HR := Lib.hid (show (validB s && elN m o (nv s)) = false by rw [hv', Bool.false_and])
    clear hv hv' hM hO h0 one
    go_enter Tryz.func85, Tryz.ntmps85
    go_wp2_with fail
    refine (formed_yes M O _ HM.out.valid HO.out.valid).mono ?_; rintro e w1 ⟨rfl, b1⟩
    replace hb := hb.trans (b1.mono hb.size)
    go_wp2_with fail
    refine (Valid_any _ _).mono ?_; rw [HV.out]; rintro e w1 ⟨rfl, rfl⟩
    go_wp2_with fail
    go_ret
    exact ⟨ret_bool HR.out.symm, hb⟩
  have hs := isN_of_valid hv
  obtain ⟨x, hx⟩ : ∃ x, nv s = x := ⟨_, rfl⟩
  rw [hx] at hs ⊢
  rw [hv, Bool.true_and]
  clear hv hx one
  have HS := Lib.hid hs
  by_cases x0 : x = 0
  · have HR := Lib.hid (show elN m o x = false by unfold elN; rw [decide_eq_false (by simp [x0])]; rfl)
    have es : s = ⟨#[]⟩ := by rw [x0] at hs; exact empty_of hs
    subst es
    clear x0 hs hM hO h0
    go_enter Tryz.func85, Tryz.ntmps85
    go_wp2_with fail
    generalize w.alloc _ = w0 at hb hG ⊢
    refine (formed_yes M O _ HM.out.valid HO.out.valid).mono ?_; rintro e w1 ⟨rfl, b1⟩
    have hG1 := hG.below b1 hG.lt
    replace hb := hb.trans (b1.mono hb.size)
    have c0 := hG1.c0
    have c1 := hG1.c1
    go_wp2_with fail
    refine (Valid_any _ _).mono ?_; rw [HS.out.valid]; rintro e w1 ⟨rfl, rfl⟩
    go_wp2_with fail
    go_ret
    exact ⟨ret_bool HR.out.symm, hb⟩
  obtain ⟨n3, n4⟩ := tl_ne (hs.pos (by omega))
  by_cases xm : m ≤ x
  · have HR := Lib.hid (show elN m o x = false by unfold elN; rw [decide_eq_false (by omega)]; rfl)
    have u1 : decide (0 ≤ ncmp x m) = true := by rw [nge_dec]; exact decide_eq_true xm
    clear x0 hs hM hO h0 xm
    go_enter Tryz.func85, Tryz.ntmps85
    go_wp2_with fail
    generalize w.alloc _ = w0 at hb hG ⊢
    refine (formed_yes M O _ HM.out.valid HO.out.valid).mono ?_; rintro e w1 ⟨rfl, b1⟩
    have hG1 := hG.below b1 hG.lt
    replace hb := hb.trans (b1.mono hb.size)
    have c0 := hG1.c0
    have c1 := hG1.c1
    go_wp2_with fail
    refine (Valid_any _ _).mono ?_; rw [HS.out.valid]; rintro e w1 ⟨rfl, rfl⟩
    go_wp2_with fail
    refine (Cmp_any _ _ _ _ _ HS.out HM.out).mono ?_; rintro e w1 ⟨rfl, rfl⟩
    go_wp2_with fail
    go_ret
    exact ⟨ret_bool HR.out.symm, hb⟩
  have u1 : decide (0 ≤ ncmp x m) = false := by rw [nge_dec]; exact decide_eq_false xm
  have hr : ∀ y, x ^ o % m = y → elN m o x = decide (y = 1) := by
    intro y hy; subst hy; unfold elN; rw [decide_eq_true (show x ≠ 0 ∧ x < m by omega), Bool.true_and]; exact decide_eq_decide.2 (by rw [if_neg (by omega)])
  have HX := Lib.hid (fun w => Exp_any s O M x o m w hs hO hM (by omega))
  have hu : x ^ 0 % m = 1 := by rw [Nat.pow_zero, Nat.mod_eq_of_lt (by omega)]
  have HU0 := fun w => Exp_any s ⟨#[]⟩ M x 0 m w hs isN0 hM (by omega)
  rw [hu] at HU0
  have HU := Lib.hid HU0
  obtain ⟨y, hy⟩ : ∃ y, x ^ o % m = y := ⟨_, rfl⟩
  have HR := Lib.hid (hr y hy)
  rw [hy] at HX
  clear x0 hs hM hO h0 xm hr hu HU0 hy
  go_enter Tryz.func85, Tryz.ntmps85
  go_wp2_with fail
  generalize w.alloc _ = w0 at hb hG ⊢
  refine (formed_yes M O _ HM.out.valid HO.out.valid).mono ?_; rintro e w1 ⟨rfl, b1⟩
  have hG1 := hG.below b1 hG.lt
  replace hb := hb.trans (b1.mono hb.size)
  clear b1 hG
  have c0 := hG1.c0
  have c1 := hG1.c1
  go_wp2_with fail
  refine (Valid_any _ _).mono ?_; rw [HS.out.valid]; rintro e w1 ⟨rfl, rfl⟩
  go_wp2_with fail
  refine (Cmp_any _ _ _ _ _ HS.out HM.out).mono ?_; rintro e w1 ⟨rfl, rfl⟩
  go_wp2_with fail
  refine (HX.out _).mono ?_; rintro e w2 ⟨rfl, b2⟩
  have hG2 := hG1.below b2 hG1.lt
  replace hb := hb.trans (b2.mono hb.size)
  clear b2 hG1 c0 c1
  have c0 := hG2.c0
  have c1 := hG2.c1
  go_wp2_with fail
  refine (HU.out _).mono ?_; rintro e w3 ⟨rfl, b3⟩
  replace hb := hb.trans (b3.mono hb.size)
  clear b3 hG2 c0 c1
  by_cases y1 : y = 1
  · subst y1
    have e1 := enc_same' 1
    go_wp2_with fail
    go_ret
    exact ⟨ret_bool (by rw [HR.out]; rfl), hb⟩
  · obtain ⟨e1, e2⟩ := enc_ne y1
    replace HR := Lib.hid (HR.out.trans (decide_eq_false y1))
    clear y1
    go_wp2_with fail
    go_ret
    exact ⟨ret_bool HR.out.symm, hb⟩
theorem rone_any (w : World) : Calls Tryz.prog 114 #[] w fun e w' => e = .returned (.string (enc 1)) ∧ Below w.heap.size w w' := by
  go_enter Tryz.func114, Tryz.ntmps114
  go_wp2_with fail
  refine (of1 _).mono ?_; rintro e w1 ⟨rfl, b1⟩
  go_wp2_with fail
  go_ret
  exact ⟨rfl, b1⟩
set_option maxHeartbeats 4000000 in
theorem good_yes (M : ByteArray) (m : Nat) (w : World) (hM : IsN M m) (h1 : m % 2 = 1) (h8 : 8 < m) :
    Calls Tryz.prog 112 #[.agg #[.string M, .string ⟨#[]⟩]] w fun e w' => e = .returned (.bool true) ∧ Below w.heap.size w w' := by
  have hb := (Below.refl _ w).alloc (Nat.le_refl _) (.cells #[.string M, .string ⟨#[]⟩] 26)
  have hG := GB.new w M ⟨#[]⟩
  have HM := Lib.hid hM
  have u1 : decide (m % 2 = 1) = true := decide_eq_true (by omega)
  have u2 : ncmp m 8 = 1 := by rcases ncmp3 m 8 with ⟨h, _⟩ | ⟨h, _⟩ | ⟨_, h⟩; (· omega); (· omega); exact h
  have v1 := hM.valid
  clear hM h1 h8
  go_enter Tryz.func112, Tryz.ntmps112
  go_wp2_with fail
  generalize w.alloc _ = w0 at hb hG ⊢
  have c0 := hG.c0
  have c1 := hG.c1
  go_region_held3 (fun w' => w'.cell? ⟨w.heap.size, 0, none⟩ = some (.string M) ∧ w'.cell? ⟨w.heap.size, 1, none⟩ = some (.string ⟨#[]⟩) ∧ GB w' w.heap.size M ⟨#[]⟩ ∧ Below w.heap.size w w')
    (first | exact ⟨c0, c1, hG, hb.drew⟩ | assumption | (refine keepG ?_ bn; assumption))
    (first
      | (go_at_call 36; (with_reducible refine (Valid_yes M m _ HM.out).mono ?_); rintro e wn ⟨rfl, rfl⟩)
      | (go_at_call 56; (with_reducible refine (bit0_any M m _ HM.out).mono ?_); rw [u1]; rintro e wn ⟨rfl, rfl⟩)
      | (go_at_call 38; (with_reducible refine (of8 _).mono ?_); rintro e wn ⟨rfl, bn⟩)
      | (go_at_call 43; (with_reducible refine (Cmp_any M (enc 8) m 8 _ HM.out isN8).mono ?_); rw [u2]; rintro e wn ⟨rfl, rfl⟩))
  all_goals (go_split_ands; go_wp2_with fail; go_ret; exact ⟨rfl, by assumption⟩)
set_option maxHeartbeats 4000000 in
theorem rsHas_any (M s : ByteArray) (m : Nat) (w : World) (hM : IsN M m) (h1 : m % 2 = 1) (h8 : 8 < m) :
    Calls Tryz.prog 86 #[.agg #[.string M, .string ⟨#[]⟩], .string s] w fun e w' => e = .returned (.bool (validB s && elN m 0 (nv s))) ∧ Below w.heap.size w w' := by
  have hb := (Below.refl _ w).alloc (Nat.le_refl _) (.cells #[.string M, .string ⟨#[]⟩] 26)
  have hG := GB.new w M ⟨#[]⟩
  have HM := Lib.hid hM
  have HGO := Lib.hid (fun w => good_yes M m w hM h1 h8)
  by_cases hv : validB s = true
  rotate_left
  · have hv' : validB s = false := by simpa using hv
    have HV := Lib.hid hv'
    have HR := Lib.hid (show (validB s && elN m 0 (nv s)) = false by rw [hv', Bool.false_and])
    clear hv hv' hM h1 h8
    go_enter Tryz.func86, Tryz.ntmps86
    go_wp2_with fail
    refine (HGO.out _).mono ?_; rintro e w1 ⟨rfl, b1⟩
    replace hb := hb.trans (b1.mono hb.size)
    go_wp2_with fail
    refine (Valid_any _ _).mono ?_; rw [HV.out]; rintro e w1 ⟨rfl, rfl⟩
    go_wp2_with fail
    go_ret
    exact ⟨ret_bool HR.out.symm, hb⟩
  have hs := isN_of_valid hv
  obtain ⟨x, hx⟩ : ∃ x, nv s = x := ⟨_, rfl⟩
  rw [hx] at hs ⊢
  rw [hv, Bool.true_and]
  clear hv hx
  have HS := Lib.hid hs
  by_cases x0 : x = 0
  · have HR := Lib.hid (show elN m 0 x = false by unfold elN; rw [decide_eq_false (by simp [x0])]; rfl)
    have es : s = ⟨#[]⟩ := by rw [x0] at hs; exact empty_of hs
    subst es
    clear x0 hs hM h1 h8
    go_enter Tryz.func86, Tryz.ntmps86
    go_wp2_with fail
    refine (HGO.out _).mono ?_; rintro e w1 ⟨rfl, b1⟩
    replace hb := hb.trans (b1.mono hb.size)
    go_wp2_with fail
    refine (Valid_any _ _).mono ?_; rw [HS.out.valid]; rintro e w1 ⟨rfl, rfl⟩
    go_wp2_with fail
    go_ret
    exact ⟨ret_bool HR.out.symm, hb⟩
  obtain ⟨n3, n4⟩ := tl_ne (hs.pos (by omega))
  by_cases xm : m ≤ x
  · have HR := Lib.hid (show elN m 0 x = false by unfold elN; rw [decide_eq_false (by omega)]; rfl)
    have u1 : decide (0 ≤ ncmp x m) = true := by rw [nge_dec]; exact decide_eq_true xm
    clear x0 hs hM h1 h8 xm
    go_enter Tryz.func86, Tryz.ntmps86
    go_wp2_with fail
    generalize w.alloc _ = w0 at hb hG ⊢
    refine (HGO.out _).mono ?_; rintro e w1 ⟨rfl, b1⟩
    have hG1 := hG.below b1 hG.lt
    replace hb := hb.trans (b1.mono hb.size)
    have c0 := hG1.c0
    have c1 := hG1.c1
    go_wp2_with fail
    refine (Valid_any _ _).mono ?_; rw [HS.out.valid]; rintro e w1 ⟨rfl, rfl⟩
    go_wp2_with fail
    refine (Cmp_any _ _ _ _ _ HS.out HM.out).mono ?_; rintro e w1 ⟨rfl, rfl⟩
    go_wp2_with fail
    go_ret
    exact ⟨ret_bool HR.out.symm, hb⟩
  have u1 : decide (0 ≤ ncmp x m) = false := by rw [nge_dec]; exact decide_eq_false xm
  have hr : ∀ y, Nat.gcd x m = y → elN m 0 x = decide (y = 1) := by
    intro y hy; subst hy; unfold elN; rw [decide_eq_true (show x ≠ 0 ∧ x < m by omega), Bool.true_and]; exact decide_eq_decide.2 (by rw [if_pos rfl])
  have HX := Lib.hid (fun w => Gcd_any s M x m w hs hM)
  obtain ⟨y, hy⟩ : ∃ y, Nat.gcd x m = y := ⟨_, rfl⟩
  have HR := Lib.hid (hr y hy)
  rw [hy] at HX
  clear x0 hs hM h1 h8 xm hr hy
  go_enter Tryz.func86, Tryz.ntmps86
  go_wp2_with fail
  generalize w.alloc _ = w0 at hb hG ⊢
  refine (HGO.out _).mono ?_; rintro e w1 ⟨rfl, b1⟩
  have hG1 := hG.below b1 hG.lt
  replace hb := hb.trans (b1.mono hb.size)
  clear b1 hG
  have c0 := hG1.c0
  have c1 := hG1.c1
  go_wp2_with fail
  refine (Valid_any _ _).mono ?_; rw [HS.out.valid]; rintro e w1 ⟨rfl, rfl⟩
  go_wp2_with fail
  refine (Cmp_any _ _ _ _ _ HS.out HM.out).mono ?_; rintro e w1 ⟨rfl, rfl⟩
  go_wp2_with fail
  refine (HX.out _).mono ?_; rintro e w2 ⟨rfl, b2⟩
  replace hb := hb.trans (b2.mono hb.size)
  clear b2 hG1 c0 c1
  go_wp2_with fail
  refine (rone_any _).mono ?_; rintro e w3 ⟨rfl, b3⟩
  replace hb := hb.trans (b3.mono hb.size)
  clear b3
  by_cases y1 : y = 1
  · subst y1
    have e1 := enc_same' 1
    go_wp2_with fail
    go_ret
    exact ⟨ret_bool (by rw [HR.out]; rfl), hb⟩
  · obtain ⟨e1, e2⟩ := enc_ne y1
    replace HR := Lib.hid (HR.out.trans (decide_eq_false y1))
    clear y1
    go_wp2_with fail
    go_ret
    exact ⟨ret_bool HR.out.symm, hb⟩
/-- an element of a well-formed group -/
theorem has_any (M O s : ByteArray) (w : World) (h : gE M O = 0) :
    Calls Tryz.prog 59 #[.agg #[.string M, .string O], .string s] w fun e w' => e = .returned (.bool (validB s && elN (nv M) (nv O) (nv s))) ∧ Below w.heap.size w w' := by
  obtain ⟨hM, hO, h2, h3⟩ := gE_ok h
  have hb := (Below.refl _ w).alloc (Nat.le_refl _) (.cells #[.string M, .string O] 26)
  have hG := GB.new w M O
  by_cases h0 : nv O = 0
  · have eO : O = ⟨#[]⟩ := by rw [h0] at hO; exact empty_of hO
    subst eO
    have HH := Lib.hid (fun w => rsHas_any M s (nv M) w hM (h3 h0).1 (h3 h0).2)
    rw [h0]
    clear h hM hO h2 h3
    go_enter Tryz.func59, Tryz.ntmps59
    go_wp2_with fail
    generalize w.alloc _ = w0 at hb hG ⊢
    have c0 := hG.c0
    have c1 := hG.c1
    go_wp2_with fail
    refine (HH.out _).mono ?_; rintro e w1 ⟨rfl, b1⟩
    go_wp2_with fail
    go_ret
    exact ⟨rfl, hb.trans (b1.mono hb.size)⟩
  · have HH := Lib.hid (fun w => pgHas_any M O s (nv M) (nv O) w hM hO h2 (by omega))
    obtain ⟨n1, n2⟩ := tl_ne (hO.pos (by omega))
    clear h hM hO h2 h3 h0
    go_enter Tryz.func59, Tryz.ntmps59
    go_wp2_with fail
    generalize w.alloc _ = w0 at hb hG ⊢
    have c0 := hG.c0
    have c1 := hG.c1
    go_wp2_with fail
    refine (HH.out _).mono ?_; rintro e w1 ⟨rfl, b1⟩
    go_wp2_with fail
    go_ret
    exact ⟨rfl, hb.trans (b1.mono hb.size)⟩
theorem gHas_any (M O s : ByteArray) (w : World) :
    Calls Tryz.prog 39 #[.agg #[.string M, .string O], .string s] w fun e w' => e = .returned (.bool (hasB M O s)) ∧ Below w.heap.size w w' := by
  have hb := (Below.refl _ w).alloc (Nat.le_refl _) (.cells #[.string M, .string O] 26)
  have hG := GB.new w M O
  rcases gE_cases M O with h | h | h
  · have hr : hasB M O s = (validB s && elN (nv M) (nv O) (nv s)) := by unfold hasB; rw [decide_eq_true h, Bool.true_and]
    rw [hr]
    have HH := Lib.hid (fun w => has_any M O s w h)
    have HE := Lib.hid h
    clear hr h
    go_enter Tryz.func39, Tryz.ntmps39
    go_wp2_with fail
    generalize w.alloc _ = w0 at hb hG ⊢
    refine (gCheck_any M O _).mono ?_; rw [HE.out]; rintro e w1 ⟨rfl, b1⟩
    have hG1 := hG.below b1 hG.lt
    replace hb := hb.trans (b1.mono hb.size)
    clear b1 hG
    have c0 := hG1.c0
    have c1 := hG1.c1
    go_wp2_with fail
    refine (HH.out _).mono ?_; rintro e w2 ⟨rfl, b2⟩
    go_wp2_with fail
    go_ret
    exact ⟨rfl, hb.trans (b2.mono hb.size)⟩
  all_goals
    have hr : hasB M O s = false := by unfold hasB; rw [h]; rfl
    rw [hr]
    have HE := Lib.hid h
    clear hr h
    go_enter Tryz.func39, Tryz.ntmps39
    go_wp2_with fail
    generalize w.alloc _ = w0 at hb hG ⊢
    refine (gCheck_any M O _).mono ?_; rw [HE.out]; rintro e w1 ⟨rfl, b1⟩
    go_wp2_with fail
    go_ret
    exact ⟨rfl, hb.trans (b1.mono hb.size)⟩
end Go.Proofs.YtdlbnioidfhhcaaGreat

/- power: rows of strings and integers that are handed over; checked, Mul. -/
namespace Go.Proofs.YtdlbnioidfhhcaaGreat
open Go.RowKit Num
set_option maxRecDepth 20000
set_option linter.unusedVariables false
/-- the numbers of a slice -/
def NS (w : World) (ao : Option Addr) (L : List ByteArray) : Prop := ∀ k (h : k < L.length), ∃ b off, ao = some ⟨b, off, none⟩ ∧ w.cell? ⟨b, off + k, none⟩ = some (.string L[k])
/-- the integers of a slice -/
def IS (w : World) (ao : Option Addr) (L : List (Bool × ByteArray)) : Prop := ∀ k (h : k < L.length), ∃ b off, ao = some ⟨b, off, none⟩ ∧ w.cell? ⟨b, off + k * 2, none⟩ = some (.bool L[k].1) ∧ w.cell? ⟨b, off + k * 2 + 1, none⟩ = some (.string L[k].2)
theorem cellB_lt {w : World} {b o : Nat} {v : Value} (h : w.cell? ⟨b, o, none⟩ = some v) : b < w.heap.size := World.block_lt_of_cell? w _ h
theorem cellB_below {w w' : World} {K b o : Nat} {v : Value} (h : w.cell? ⟨b, o, none⟩ = some v) (hb : Below K w w') (hK : w.heap.size ≤ K) : w'.cell? ⟨b, o, none⟩ = some v := by
  have := cellB_lt h
  rw [hb.cell (p := ⟨b, o, none⟩) (by show b < K; omega)]; exact h
theorem NS.below {w w' : World} {ao : Option Addr} {L : List ByteArray} {K : Nat} (h : NS w ao L) (hb : Below K w w') (hK : w.heap.size ≤ K) : NS w' ao L := fun k hk => by
  obtain ⟨b, off, h1, h2⟩ := h k hk
  exact ⟨b, off, h1, cellB_below h2 hb hK⟩
theorem IS.below {w w' : World} {ao : Option Addr} {L : List (Bool × ByteArray)} {K : Nat} (h : IS w ao L) (hb : Below K w w') (hK : w.heap.size ≤ K) : IS w' ao L := fun k hk => by
  obtain ⟨b, off, h1, h2, h3⟩ := h k hk
  exact ⟨b, off, h1, cellB_below h2 hb hK, cellB_below h3 hb hK⟩
theorem NS.of_str {w : World} {b : Nat} {L : List ByteArray} (h : StrAt w b L) : NS w (some ⟨b, 0, none⟩) L := fun k hk => ⟨b, 0, rfl, by rw [Nat.zero_add]; exact h k hk⟩
theorem NS.nil (w : World) (ao : Option Addr) : NS w ao [] := fun k hk => by simp at hk
theorem IS.nil (w : World) (ao : Option Addr) : IS w ao [] := fun k hk => by simp at hk
/-- a valid integer -/
def ivB (p : Bool × ByteArray) : Bool := validB p.2 && !(p.1 && p.2.toList.isEmpty)
/-- what checked answers -/
def ckE (M O : ByteArray) (l : List ByteArray) (es : List (Bool × ByteArray)) (same : Bool) : Int :=
  if l.all validB = true ∧ es.all ivB = true then (if gE M O = 0 then (if same = true then (if l.all (fun x => elN (nv M) (nv O) (nv x)) = true then 0 else 13) else 6) else gE M O) else 3
theorem ck_three {M O : ByteArray} {l : List ByteArray} {es : List (Bool × ByteArray)} {same : Bool} (h : ¬ (l.all validB = true ∧ es.all ivB = true)) : ckE M O l es same = 3 := if_neg h
theorem ck_group {M O : ByteArray} {l : List ByteArray} {es : List (Bool × ByteArray)} {same : Bool} (h : l.all validB = true ∧ es.all ivB = true) (hg : gE M O ≠ 0) : ckE M O l es same = gE M O := by unfold ckE; rw [if_pos h, if_neg hg]
theorem ck_many {M O : ByteArray} {l : List ByteArray} {es : List (Bool × ByteArray)} (h : l.all validB = true ∧ es.all ivB = true) (hg : gE M O = 0) : ckE M O l es false = 6 := by unfold ckE; rw [if_pos h, if_pos hg]; rfl
theorem ck_last {M O : ByteArray} {l : List ByteArray} {es : List (Bool × ByteArray)} (h : l.all validB = true ∧ es.all ivB = true) (hg : gE M O = 0) : ckE M O l es true = if l.all (fun x => elN (nv M) (nv O) (nv x)) = true then 0 else 13 := by unfold ckE; rw [if_pos h, if_pos hg, if_pos rfl]
theorem all_of {α : Type} {p : α → Bool} {l : List α} (h : ∀ j (hj : j < l.length), p l[j] = true) : l.all p = true := by
  rw [List.all_eq_true]
  intro x hx
  obtain ⟨j, hj, rfl⟩ := List.mem_iff_getElem.1 hx
  exact h j hj
theorem not_all {α : Type} {p : α → Bool} {l : List α} {j : Nat} (hj : j < l.length) (h : p l[j] = false) : ¬ l.all p = true := fun ha => by
  have := List.all_eq_true.1 ha _ (List.getElem_mem hj)
  rw [h] at this; cases this
set_option maxHeartbeats 4000000 in
theorem checked_any (M O : ByteArray) (ao bo : Option Addr) (cl ce : Nat) (l : List ByteArray) (es : List (Bool × ByteArray)) (same : Bool) (w : World) (hl : NS w ao l) (he : IS w bo es) (l1 : l.length ≤ 1000) (l2 : es.length ≤ 1000) :
    Calls Tryz.prog 53 #[.agg #[.string M, .string O], .slice ao l.length cl, .slice bo es.length ce, .bool same] w fun e w' => e = .returned (.int .i64 (ckE M O l es same)) ∧ Below w.heap.size w w' := by
  have hb := (Below.refl _ w).alloc (Nat.le_refl _) (.cells #[.string M, .string O] 26)
  have hG := GB.new w M O
  go_enter Tryz.func53, Tryz.ntmps53
  go_wp2_with fail
  have HL := Lib.hid (hl.below hb (Nat.le_refl _))
  have HE := Lib.hid (he.below hb (Nat.le_refl _))
  generalize w.alloc _ = w0 at hb hG HL HE ⊢
  clear hl he
  go_loop [18] (fun i => ∃ k : Nat, k ≤ l.length ∧ i = .int .i64 k ∧ Hid (∀ j (hj : j < l.length), j < k → validB l[j] = true)) (fun i => l.length - (intOf i).toNat)
  case atStart => exact ⟨0, by omega, rfl, fun j _ h => by omega⟩
  case round =>
    obtain ⟨k, hk, rfl, hv⟩ := hrel
    by_cases hlt : k < l.length
    · obtain ⟨b, off, rfl, hc⟩ := HL.out k hlt
      by_cases hval : validB l[k] = true
      · go_wp2_with (go_at_call 36; (with_reducible refine (Valid_any _ _).mono ?_); rintro e w' ⟨rfl, rfl⟩)
        go_round
        case rel => exact ⟨k + 1, by omega, by go_num, fun j hj hjk => by
          by_cases e : j = k
          · subst e; exact hval
          · exact hv.out j hj (by omega)⟩
        case measure => simp [intOf]; omega
      · have hval2 : validB l[k] = false := by simpa using hval
        have HR := Lib.hid (ck_three (M := M) (O := O) (es := es) (same := same) fun h => not_all hlt hval2 h.1)
        clear hval
        go_wp2_with (go_at_call 36; (with_reducible refine (Valid_any _ _).mono ?_); rintro e w' ⟨rfl, rfl⟩)
        go_ret
        exact ⟨ret_int HR.out.symm, hb⟩
    · obtain rfl : k = l.length := by omega
      have HV := Lib.hid (all_of fun j hj => hv.out j hj hj)
      clear hv hlt
      go_wp2_with fail
      obtain ⟨wo, rfl⟩ : ∃ wo : World, wo = w0 := ⟨_, rfl⟩
      go_loopw [28] (fun i wr => ∃ k : Nat, k ≤ es.length ∧ i = .int .i64 k ∧ Hid (∀ j (hj : j < es.length), j < k → ivB es[j] = true) ∧ Below wo.heap.size wo wr) (fun i _ => es.length - (intOf i).toNat)
      case atStart => exact ⟨0, by omega, rfl, fun j _ h => by omega, Below.refl _ _⟩
      case round =>
        obtain ⟨k, hk2, rfl, hv, hbr⟩ := hrel
        by_cases hlt : k < es.length
        · obtain ⟨b, off, rfl, hc1, hc2⟩ := HE.out k hlt
          have hc1 := cellB_below hc1 hbr (Nat.le_refl _)
          have hc2 := cellB_below hc2 hbr (Nat.le_refl _)
          have hb2 := hbr.alloc hbr.size (.cells #[.bool es[k].1, .string es[k].2] 50)
          by_cases hval : ivB es[k] = true
          · have HVV := Lib.hid hval
            clear hval
            go_wp2_with fail
            refine (ivalid_any es[k].1 es[k].2 _).mono ?_
            rw [show (validB es[k].2 && !(es[k].1 && es[k].2.toList.isEmpty)) = true from HVV.out]
            rintro e w2 ⟨rfl, b2⟩
            have hb3 := hb2.trans (b2.mono hb2.size)
            go_wp2_with fail
            go_roundw
            case rel => exact ⟨k + 1, by omega, by go_num, fun j hj hjk => (by
              by_cases e : j = k
              · subst e; exact HVV.out
              · exact hv.out j hj (by omega)), hb3⟩
            case measure => simp [intOf]; omega
          · have hval2 : ivB es[k] = false := by simpa using hval
            have HR := Lib.hid (ck_three (M := M) (O := O) (l := l) (same := same) fun h => not_all hlt hval2 h.2)
            have HVV := Lib.hid hval2
            clear hval hval2
            go_wp2_with fail
            refine (ivalid_any es[k].1 es[k].2 _).mono ?_
            rw [show (validB es[k].2 && !(es[k].1 && es[k].2.toList.isEmpty)) = false from HVV.out]
            rintro e w2 ⟨rfl, b2⟩
            have hb3 := hb2.trans (b2.mono hb2.size)
            go_wp2_with fail
            go_ret
            exact ⟨ret_int HR.out.symm, hb.trans (hb3.mono hb.size)⟩
        · obtain rfl : k = es.length := by omega
          have HVE := Lib.hid (all_of fun j hj => hv.out j hj hj)
          have hG1 := hG.below hbr hG.lt
          have HL1 := Lib.hid (HL.out.below hbr (Nat.le_refl _))
          have hb1 := hb.trans (hbr.mono hb.size)
          clear hv hlt hG HL HE hb
          have c0 := hG1.c0
          have c1 := hG1.c1
          rcases gE_cases M O with hg | hg | hg
          rotate_left
          · have HR := Lib.hid (ck_group (same := same) ⟨HV.out, HVE.out⟩ (by rw [hg]; decide))
            have HG := Lib.hid hg
            clear hg
            go_wp2_with fail
            refine (gCheck_any M O _).mono ?_; rw [HG.out]; rintro e w2 ⟨rfl, b2⟩
            go_wp2_with fail
            go_ret
            exact ⟨ret_int (HR.out.trans HG.out).symm, hb1.trans (b2.mono hb1.size)⟩
          · have HR := Lib.hid (ck_group (same := same) ⟨HV.out, HVE.out⟩ (by rw [hg]; decide))
            have HG := Lib.hid hg
            clear hg
            go_wp2_with fail
            refine (gCheck_any M O _).mono ?_; rw [HG.out]; rintro e w2 ⟨rfl, b2⟩
            go_wp2_with fail
            go_ret
            exact ⟨ret_int (HR.out.trans HG.out).symm, hb1.trans (b2.mono hb1.size)⟩
          have HG := Lib.hid hg
          clear hg
          cases same
          · have HR := Lib.hid (ck_many ⟨HV.out, HVE.out⟩ HG.out)
            go_wp2_with fail
            refine (gCheck_any M O _).mono ?_; rw [HG.out]; rintro e w2 ⟨rfl, b2⟩
            go_wp2_with fail
            go_ret
            exact ⟨ret_int HR.out.symm, hb1.trans (b2.mono hb1.size)⟩
          · have HR := Lib.hid (ck_last ⟨HV.out, HVE.out⟩ HG.out)
            go_wp2_with fail
            refine (gCheck_any M O _).mono ?_; rw [HG.out]; rintro e w2 ⟨rfl, b2⟩
            have hG2 := hG1.below b2 hG1.lt
            have HL2 := Lib.hid (HL1.out.below b2 (Nat.le_refl _))
            have hb2 := hb1.trans (b2.mono hb1.size)
            clear hG1 HL1 hb1 b2 c0 c1 hbr
            go_wp2_with fail
            obtain ⟨wp, rfl⟩ : ∃ wp : World, wp = w2 := ⟨_, rfl⟩
            go_loopw [45] (fun i wr => ∃ k : Nat, k ≤ l.length ∧ i = .int .i64 k ∧ Hid (∀ j (hj : j < l.length), j < k → elN (nv M) (nv O) (nv l[j]) = true) ∧ Below wp.heap.size wp wr) (fun i _ => l.length - (intOf i).toNat)
            case atStart => exact ⟨0, by omega, rfl, fun j _ h => by omega, Below.refl _ _⟩
            case round =>
              obtain ⟨k, hk3, rfl, hv, hbr⟩ := hrel
              have hG3 := hG2.below hbr hG2.lt
              have c0 := hG3.c0
              have c1 := hG3.c1
              by_cases hlt : k < l.length
              · obtain ⟨b, off, rfl, hc⟩ := HL2.out k hlt
                have hc := cellB_below hc hbr (Nat.le_refl _)
                have hvk := List.all_eq_true.1 HV.out _ (List.getElem_mem hlt)
                by_cases hval : elN (nv M) (nv O) (nv l[k]) = true
                · have HH := Lib.hid (show (validB l[k] && elN (nv M) (nv O) (nv l[k])) = true by rw [hvk, hval]; rfl)
                  have HVAL := Lib.hid hval
                  clear hval hvk
                  go_wp2_with fail
                  refine (has_any M O l[k] _ HG.out).mono ?_; rw [HH.out]; rintro e w3 ⟨rfl, b3⟩
                  have hb3 := hbr.trans (b3.mono hbr.size)
                  go_wp2_with fail
                  go_roundw
                  case rel => exact ⟨k + 1, by omega, by go_num, fun j hj hjk => (by
                    by_cases e : j = k
                    · subst e; exact HVAL.out
                    · exact hv.out j hj (by omega)), hb3⟩
                  case measure => simp [intOf]; omega
                · have hval2 : elN (nv M) (nv O) (nv l[k]) = false := by simpa using hval
                  have HH := Lib.hid (show (validB l[k] && elN (nv M) (nv O) (nv l[k])) = false by rw [hvk, hval2]; rfl)
                  have HR2 := Lib.hid (HR.out.trans (if_neg (not_all hlt hval2)))
                  clear hval hval2 hvk
                  go_wp2_with fail
                  refine (has_any M O l[k] _ HG.out).mono ?_; rw [HH.out]; rintro e w3 ⟨rfl, b3⟩
                  have hb3 := hbr.trans (b3.mono hbr.size)
                  go_wp2_with fail
                  go_ret
                  exact ⟨ret_int HR2.out.symm, hb2.trans (hb3.mono hb2.size)⟩
              · obtain rfl : k = l.length := by omega
                have HR2 := Lib.hid (HR.out.trans (if_pos (all_of fun j hj => hv.out j hj hj)))
                clear hv hlt
                go_wp2_with fail
                go_ret
                exact ⟨ret_int HR2.out.symm, hb2.trans (hbr.mono hb2.size)⟩
theorem ns_two (w : World) (a b : ByteArray) : NS (w.alloc (.cells #[.string a, .string b] 22)) (some ⟨w.heap.size, 0, none⟩) [a, b] := by
  refine NS.of_str fun j hj => ?_
  rw [Lib.cell_of_heap (heap_alloc_new w _)]
  match j, hj with
  | 0, _ => rfl
  | 1, _ => rfl
/-- what Mul answers -/
def gmE (M O a b : ByteArray) : Int := ckE M O [a, b] [] true
def gmS (M O a b : ByteArray) : ByteArray := mo (gmE M O a b) (nv a * nv b % nv M)
theorem checked2 (M O a b : ByteArray) (ao : Option Addr) (w : World) (h : NS w ao [a, b]) :
    Calls Tryz.prog 53 #[.agg #[.string M, .string O], .slice ao 2 2, .slice none 0 0, .bool true] w fun e w' => e = .returned (.int .i64 (gmE M O a b)) ∧ Below w.heap.size w w' :=
  checked_any M O ao none 2 0 [a, b] [] true w h (IS.nil _ _) (by simp) (by simp)
theorem ck_ok {M O : ByteArray} {l : List ByteArray} {es : List (Bool × ByteArray)} {same : Bool} (h : ckE M O l es same = 0) : (l.all validB = true ∧ es.all ivB = true) ∧ gE M O = 0 ∧ same = true ∧ l.all (fun x => elN (nv M) (nv O) (nv x)) = true := by
  unfold ckE at h
  split at h
  · rename_i h1
    split at h
    · rename_i h2
      split at h
      · rename_i h3
        split at h
        · rename_i h4
          exact ⟨h1, h2, h3, h4⟩
        · cases h
      · cases h
    · rename_i h2; exact absurd h h2
  · cases h
theorem ck_cases (M O : ByteArray) (l : List ByteArray) (es : List (Bool × ByteArray)) (same : Bool) : ckE M O l es same = 0 ∨ ckE M O l es same = 3 ∨ ckE M O l es same = 6 ∨ ckE M O l es same = 13 := by
  unfold ckE
  split
  · split
    · split
      · split <;> simp
      · simp
    · rcases gE_cases M O with h | h | h <;> simp [h]
  · simp
set_option maxHeartbeats 1000000 in
theorem gMul_any (M O a b : ByteArray) (w : World) :
    Calls Tryz.prog 66 #[.agg #[.string M, .string O], .string a, .string b] w fun e w' => e = .returned (.tuple #[.string (gmS M O a b), .int .i64 (gmE M O a b)]) ∧ Below w.heap.size w w' := by
  have hb := (Below.refl _ w).alloc (Nat.le_refl _) (.cells #[.string M, .string O] 26)
  have hG := GB.new w M O
  have HCK := Lib.hid (fun w ao h => checked2 M O a b ao w h)
  by_cases h0 : gmE M O a b = 0
  · rw [gmS, h0, mo_zero]
    obtain ⟨h1, h2, h3, h4⟩ := ck_ok h0
    have hM := (gE_ok h2).1
    have hm2 := (gE_ok h2).2.2.1
    have hva : validB a = true := by have := List.all_eq_true.1 h1.1 a (by simp); exact this
    have hvb : validB b = true := by have := List.all_eq_true.1 h1.1 b (by simp); exact this
    have HMM := Lib.hid (fun w => ModMul_ok a b M (nv a) (nv b) (nv M) w (isN_of_valid hva) (isN_of_valid hvb) hM (by omega))
    have H0 := Lib.hid h0
    clear h0 h1 h2 h3 h4 hM hm2 hva hvb
    go_enter Tryz.func66, Tryz.ntmps66
    go_wp2_with fail
    have hN := ns_two (w.alloc (.cells #[.string M, .string O] 26)) a b
    have hG1 := hG.alloc (.cells #[.string a, .string b] 22)
    have hb1 := hb.alloc hb.size (.cells #[.string a, .string b] 22)
    rw [World.size_alloc] at hN
    clear hG hb
    generalize World.alloc _ _ = w1 at hG1 hb1 hN ⊢
    refine (HCK.out _ _ hN).mono ?_; rw [H0.out]; rintro e w2 ⟨rfl, b2⟩
    have hG2 := hG1.below b2 hG1.lt
    have hb2 := hb1.trans (b2.mono hb1.size)
    clear hG1 hb1 b2 hN
    have c0 := hG2.c0
    go_wp2_with fail
    refine (HMM.out _).mono ?_; rintro e w3 ⟨rfl, b3⟩
    go_wp2_with fail
    go_ret2
    exact ⟨rfl, hb2.trans (b3.mono hb2.size)⟩
  · rw [gmS, mo_bad h0]
    have hk : gmE M O a b = 3 ∨ gmE M O a b = 6 ∨ gmE M O a b = 13 := (ck_cases M O [a, b] [] true).resolve_left h0
    clear h0
    rcases hk with hk | hk | hk
    all_goals
      rw [hk]
      have H0 := Lib.hid hk
      clear hk
      go_enter Tryz.func66, Tryz.ntmps66
      go_wp2_with fail
      have hN := ns_two (w.alloc (.cells #[.string M, .string O] 26)) a b
      have hb1 := hb.alloc hb.size (.cells #[.string a, .string b] 22)
      rw [World.size_alloc] at hN
      clear hG hb
      generalize World.alloc _ _ = w1 at hb1 hN ⊢
      refine (HCK.out _ _ hN).mono ?_; rw [H0.out]; rintro e w2 ⟨rfl, b2⟩
      go_wp2_with fail
      go_ret2
      exact ⟨rfl, hb1.trans (b2.mono hb1.size)⟩
end Go.Proofs.YtdlbnioidfhhcaaGreat
