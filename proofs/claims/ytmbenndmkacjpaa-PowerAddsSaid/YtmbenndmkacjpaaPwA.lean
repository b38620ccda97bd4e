/- power, primegroup, rsagroup: groups and elements. -/
import Derived.Test.YtmbenndmkacjpaaPwr
import Derived.Test.YtmbenndmkacjpaaNatH
import Derived.Test.YtmbenndmkacjpaaExp
import Derived.Deep.RegionHeld3
namespace Go.Proofs.Ytmbenndmkacjpaa
open Go.RowKit Num
set_option maxRecDepth 20000
set_option linter.unusedVariables false
/-- a variable of type Group -/
def GB (W : World) (b : Nat) (M O : ByteArray) : Prop := W.heap[b]? = some (.cells #[.string M, .string O] 24 (0, 0))
section
variable {W W' : World} {b : Nat} {M O : ByteArray}
theorem GB.lt (h : GB W b M O) : b < W.heap.size := (Array.getElem?_eq_some_iff.1 h).1
theorem GB.c0 (h : GB W b M O) : W.cell? ⟨b, 0, none⟩ = some (.string M) := by rw [Lib.cell_of_heap h]; rfl
theorem GB.c1 (h : GB W b M O) : W.cell? ⟨b, 1, none⟩ = some (.string O) := by rw [Lib.cell_of_heap h]; rfl
theorem GB.new (W : World) (M O : ByteArray) : GB (W.alloc (.cells #[.string M, .string O] 24)) W.heap.size M O := heap_alloc_new W _
theorem GB.below {K : Nat} (h : GB W b M O) (hb : Below K W W') (hB : b < K) : GB W' b M O := (hb.block b hB).trans h
theorem GB.alloc (h : GB W b M O) (o : Obj) : GB (W.alloc o) b M O := (Below.heap_alloc W o b h.lt).trans h
theorem GB.drew (h : GB W b M O) : GB W.drew b M O := h
end
theorem keepG {w w1 w2 : World} {M O : ByteArray} (h : w1.cell? ⟨w.heap.size, 0, none⟩ = some (.string M) ∧ w1.cell? ⟨w.heap.size, 1, none⟩ = some (.string O) ∧ GB w1 w.heap.size M O ∧ Below w.heap.size w w1) (b : Below w1.heap.size w1 w2) :
    w2.cell? ⟨w.heap.size, 0, none⟩ = some (.string M) ∧ w2.cell? ⟨w.heap.size, 1, none⟩ = some (.string O) ∧ GB w2 w.heap.size M O ∧ Below w.heap.size w w2 :=
  have N := h.2.2.1.below b h.2.2.1.lt
  ⟨N.c0, N.c1, N, h.2.2.2.trans (b.mono h.2.2.2.size)⟩
/-- the error of a group -/
def gE (M O : ByteArray) : Int := if validB M = true ∧ validB O = true then (if nv O = 0 then (if nv M % 2 = 1 ∧ 8 < nv M then 0 else 13) else if 2 ≤ nv M ∧ 2 ≤ nv O ∧ (nv M - 1) % nv O = 0 then 0 else 13) else 3
/-- an element -/
def hasB (M O x : ByteArray) : Bool := decide (gE M O = 0) && (validB x && elN (nv M) (nv O) (nv x))
theorem gE_cases (M O : ByteArray) : gE M O = 0 ∨ gE M O = 3 ∨ gE M O = 13 := by
  unfold gE
  split
  · split
    · split <;> simp
    · split <;> simp
  · simp
theorem gE_ok {M O : ByteArray} (h : gE M O = 0) : IsN M (nv M) ∧ IsN O (nv O) ∧ 2 ≤ nv M ∧ (nv O = 0 → nv M % 2 = 1 ∧ 8 < nv M) := by
  unfold gE at h
  split at h
  · rename_i hv
    refine ⟨isN_of_valid hv.1, isN_of_valid hv.2, ?_⟩
    split at h
    · split at h
      · rename_i h1; exact ⟨by omega, fun _ => h1⟩
      · cases h
    · split at h
      · rename_i h0 h1; exact ⟨h1.1, fun h => absurd h h0⟩
      · cases h
  · cases h
theorem empty_of {s : ByteArray} (h : IsN s 0) : s = ⟨#[]⟩ := by rw [h.eq]; rfl
theorem ngt_dec {a b : Nat} : decide (ncmp a b ≤ 0) = decide (a ≤ b) := by
  have := ncmp_gt a b
  by_cases h : a ≤ b
  · rw [decide_eq_true h, decide_eq_true (by omega)]
  · rw [decide_eq_false h, decide_eq_false (by omega)]
theorem nlt_dec {a b : Nat} : decide (ncmp a b < 0) = decide (a < b) := by
  have := ncmp_lt a b
  by_cases h : a < b
  · rw [decide_eq_true h, decide_eq_true (by omega)]
  · rw [decide_eq_false h, decide_eq_false (by omega)]
theorem nge_dec {a b : Nat} : decide (0 ≤ ncmp a b) = decide (b ≤ a) := by
  have := ncmp_ge a b
  by_cases h : b ≤ a
  · rw [decide_eq_true h, decide_eq_true (by omega)]
  · rw [decide_eq_false h, decide_eq_false (by omega)]
theorem npos_dec {a b : Nat} : decide (0 < ncmp a b) = decide (b < a) := by
  have := ncmp_gt a b
  by_cases h : b < a
  · rw [decide_eq_true h, decide_eq_true (by omega)]
  · rw [decide_eq_false h, decide_eq_false (by omega)]
theorem isN8 : IsN (enc 8) 8 := IsN.mk' (by decide)
theorem isE1 : IsN (enc 1) 1 := IsN.mk' (by decide)
theorem isN2 : IsN (enc 2) 2 := IsN.mk' (by decide)
theorem isN0 : IsN ⟨#[]⟩ 0 := by have h := IsN.mk' (a := 0) (by decide); exact h
theorem tl_ne {s : ByteArray} (h0 : s.size ≠ 0) : (s.toList = [] → False) ∧ s.toList.isEmpty = false := by
  have h1 : s.toList ≠ [] := fun e => h0 (by
    rw [ByteArray.toList_eq] at e
    show s.data.size = 0
    rw [← Array.length_toList, e]; rfl)
  refine ⟨h1, ?_⟩
  cases hh : s.toList with
  | nil => exact absurd hh h1
  | cons a l => rfl
theorem ncmp3 (a b : Nat) : (a < b ∧ ncmp a b = -1) ∨ (a = b ∧ ncmp a b = 0) ∨ (b < a ∧ ncmp a b = 1) := by
  unfold ncmp
  rcases Nat.lt_trichotomy a b with h | h | h
  · exact .inl ⟨h, if_pos h⟩
  · exact .inr (.inl ⟨h, by rw [if_neg (by omega), if_neg (by omega)]⟩)
  · exact .inr (.inr ⟨h, by rw [if_neg (by omega), if_pos h]⟩)
theorem bit0_any (s : ByteArray) (a : Nat) (w : World) (hs : IsN s a) :
    Calls Try.prog 25 #[.string s, .int .i64 0] w fun e w' => e = .returned (.bool (decide (a % 2 = 1))) ∧ w = w' := by
  have h := Bit_any s a 0 w hs (by omega)
  have e : tb a 0 = decide (a % 2 = 1) := by unfold tb; simp
  rw [e] at h
  exact h
theorem of8 (w : World) : Calls Try.prog 22 #[.int .u64 8] w fun e w' => e = .returned (.string (enc 8)) ∧ Below w.heap.size w w' := Of_any 8 w (by omega)
theorem of2 (w : World) : Calls Try.prog 22 #[.int .u64 2] w fun e w' => e = .returned (.string (enc 2)) ∧ Below w.heap.size w w' := Of_any 2 w (by omega)
theorem of1 (w : World) : Calls Try.prog 22 #[.int .u64 1] w fun e w' => e = .returned (.string (enc 1)) ∧ Below w.heap.size w w' := Of_any 1 w (by omega)
/-- the cases of Check -/
theorem gCheck_bad (M O : ByteArray) (w : World) (h : ¬ (validB M = true ∧ validB O = true)) :
    Calls Try.prog 20 #[.agg #[.string M, .string O]] w fun e w' => e = .returned (.int .i64 3) ∧ Below w.heap.size w w' := by
  have hb := (Below.refl _ w).alloc (Nat.le_refl _) (.cells #[.string M, .string O] 24)
  cases hM : validB M
  · have HM := Lib.hid hM
    clear hM h
    go_enter Try.func20, Try.ntmps20
    go_wp2_with fail
    refine (Valid_any M _).mono ?_; rw [HM.out]; rintro e w1 ⟨rfl, rfl⟩
    go_wp2_with fail
    go_ret
    exact ⟨rfl, hb⟩
  · have hO : validB O = false := by simpa [hM] using h
    have HM := Lib.hid hM
    have HO := Lib.hid hO
    clear hM h hO
    go_enter Try.func20, Try.ntmps20
    go_wp2_with fail
    refine (Valid_any M _).mono ?_; rw [HM.out]; rintro e w1 ⟨rfl, rfl⟩
    go_wp2_with fail
    refine (Valid_any O _).mono ?_; rw [HO.out]; rintro e w1 ⟨rfl, rfl⟩
    go_wp2_with fail
    go_ret
    exact ⟨rfl, hb⟩
set_option maxHeartbeats 4000000 in
theorem gCheck_even (M : ByteArray) (m : Nat) (w : World) (hM : IsN M m) (h : m % 2 = 0) :
    Calls Try.prog 20 #[.agg #[.string M, .string ⟨#[]⟩]] w fun e w' => e = .returned (.int .i64 13) ∧ Below w.heap.size w w' := by
  have hb := (Below.refl _ w).alloc (Nat.le_refl _) (.cells #[.string M, .string ⟨#[]⟩] 24)
  have hG := GB.new w M ⟨#[]⟩
  have HM := Lib.hid hM
  have HV := Lib.hid (show validB ⟨#[]⟩ = true by decide +kernel)
  have u1 : decide (m % 2 = 1) = false := decide_eq_false (by omega)
  have HB0 : Hid (∀ w, Calls Try.prog 25 #[.string M, .int .i64 0] w fun e w' => e = .returned (.bool false) ∧ w' = w) := fun w => by have h := bit0_any M m w hM; rw [u1] at h; exact h.mono fun _ _ ⟨a, b⟩ => ⟨a, b.symm⟩
  clear hM h u1
  go_enter Try.func20, Try.ntmps20
  go_wp2_with fail
  generalize w.alloc _ = w0 at hb hG ⊢
  refine (Valid_any M _).mono ?_; rw [HM.out.valid]; rintro e w1 ⟨rfl, rfl⟩
  have c0 := hG.c0
  have c1 := hG.c1
  go_wp2_with fail
  refine (Valid_any _ _).mono ?_; rw [HV.out]; rintro e w1 ⟨rfl, rfl⟩
  go_wp2_with fail
  go_quiet ((go_at_call 25; exact Calls.quiet_of_same (HB0.out _)))
  have hq : Below w.heap.size w (w0.drewN nq) := below_drewN hb nq
  generalize w0.drewN nq = w2 at hq ⊢
  go_wp2_with fail
  go_ret
  exact ⟨rfl, hq⟩
set_option maxHeartbeats 4000000 in
theorem gCheck_odd (M : ByteArray) (m : Nat) (w : World) (hM : IsN M m) (h : m % 2 = 1) (E : Int) (hE : E = if 8 < m then 0 else 13) :
    Calls Try.prog 20 #[.agg #[.string M, .string ⟨#[]⟩]] w fun e w' => e = .returned (.int .i64 E) ∧ Below w.heap.size w w' := by
  have hb := (Below.refl _ w).alloc (Nat.le_refl _) (.cells #[.string M, .string ⟨#[]⟩] 24)
  have hG := GB.new w M ⟨#[]⟩
  have HM := Lib.hid hM
  have HV := Lib.hid (show validB ⟨#[]⟩ = true by decide +kernel)
  have u1 : decide (m % 2 = 1) = true := decide_eq_true (by omega)
  clear hM h
  rcases ncmp3 m 8 with ⟨h8, u2⟩ | ⟨h8, u2⟩ | ⟨h8, u2⟩
  all_goals
    have HE := Lib.hid (hE.trans (by first | exact if_pos h8 | exact if_neg (by omega)))
    clear hE h8
    go_enter Try.func20, Try.ntmps20
    go_wp2_with fail
    generalize w.alloc _ = w0 at hb hG ⊢
    refine (Valid_any M _).mono ?_; rw [HM.out.valid]; rintro e w1 ⟨rfl, rfl⟩
    have c0 := hG.c0
    have c1 := hG.c1
    go_wp2_with fail
    refine (Valid_any _ _).mono ?_; rw [HV.out]; rintro e w1 ⟨rfl, rfl⟩
    go_wp2_with fail
    go_region_held3 (fun w' => w'.cell? ⟨w.heap.size, 0, none⟩ = some (.string M) ∧ w'.cell? ⟨w.heap.size, 1, none⟩ = some (.string ⟨#[]⟩) ∧ GB w' w.heap.size M ⟨#[]⟩ ∧ Below w.heap.size w w')
      (first | exact ⟨c0, c1, hG, hb.drew⟩ | assumption | (refine keepG ?_ bn; assumption))
      (first
        | (go_at_call 25; (with_reducible refine (bit0_any M m _ HM.out).mono ?_); rw [u1]; rintro e wn ⟨rfl, rfl⟩)
        | (go_at_call 22; (with_reducible refine (of8 _).mono ?_); rintro e wn ⟨rfl, bn⟩)
        | (go_at_call 32; (with_reducible refine (Cmp_any M (enc 8) m 8 _ HM.out isN8).mono ?_); rw [u2]; rintro e wn ⟨rfl, rfl⟩))
    all_goals (go_split_ands; go_wp2_with fail; go_ret; exact ⟨ret_int HE.out.symm, by assumption⟩)
set_option maxHeartbeats 4000000 in
/-- the modulus 0 or 1: what is left of it is empty -/
theorem gCheck_small (M O : ByteArray) (o : Nat) (E : Int) (w : World) (hM : validB M = true) (hO : IsN O o) (h0 : 0 < o) (hE : E = 0 ∨ E = 2)
    (hS : ∀ w, Calls Try.prog 33 #[.string M, .string (enc 1)] w fun e w' => e = .returned (.tuple #[.string ⟨#[]⟩, .int .i64 E]) ∧ Below w.heap.size w w') :
    Calls Try.prog 20 #[.agg #[.string M, .string O]] w fun e w' => e = .returned (.int .i64 13) ∧ Below w.heap.size w w' := by
  have hb := (Below.refl _ w).alloc (Nat.le_refl _) (.cells #[.string M, .string O] 24)
  have hG := GB.new w M O
  have HO := Lib.hid hO
  have HM := Lib.hid hM
  have HS := Lib.hid hS
  obtain ⟨n1, n2⟩ := tl_ne (hO.pos h0)
  obtain ⟨S1, hS1⟩ : ∃ s, enc 1 = s := ⟨_, rfl⟩
  have HOF := Lib.hid of1
  rw [hS1] at HS HOF
  clear hO h0 hM hS hS1
  go_enter Try.func20, Try.ntmps20
  go_wp2_with fail
  generalize w.alloc _ = w0 at hb hG ⊢
  refine (Valid_any _ _).mono ?_; rw [HM.out]; rintro e w1 ⟨rfl, rfl⟩
  have c0 := hG.c0
  have c1 := hG.c1
  go_wp2_with fail
  refine (Valid_any _ _).mono ?_; rw [HO.out.valid]; rintro e w1 ⟨rfl, rfl⟩
  go_wp2_with fail
  go_cut [3, 4] from 32 (fun v3 v4 wc => v3 = .string ⟨#[]⟩ ∧ v4 = .int .i64 E ∧ Below w.heap.size w wc)
  case first =>
    go_region_held3 (fun w' => w'.cell? ⟨w.heap.size, 0, none⟩ = some (.string M) ∧ w'.cell? ⟨w.heap.size, 1, none⟩ = some (.string O) ∧ GB w' w.heap.size M O ∧ Below w.heap.size w w')
      (first | exact ⟨c0, c1, hG, hb.drew⟩ | assumption | (refine keepG ?_ bn; assumption))
      (first
        | (go_at_call 22; (with_reducible refine (HOF.out _).mono ?_); rintro e wn ⟨rfl, bn⟩)
        | (go_at_call 33; (with_reducible refine (HS.out _).mono ?_); rintro e wn ⟨rfl, bn⟩))
    all_goals (go_split_ands; go_wp2_with fail; go_meet; exact ⟨rfl, rfl, by assumption⟩)
  case rest =>
    clear hb hG c0 c1 HS HOF
    obtain ⟨rfl, rfl, hb⟩ := hcut
    rcases hE with rfl | rfl
    all_goals
      go_wp2_with fail
      go_quiet (fail)
      have hq := below_drewN hb nq
      generalize World.drewN _ nq = w2 at hq ⊢
      go_wp2_with fail
      go_ret
      exact ⟨rfl, hq⟩
set_option maxHeartbeats 4000000 in
/-- the modulus is at least 2, the order at least 1 -/
theorem gCheck_low (M O : ByteArray) (m : Nat) (w : World) (hM : IsN M m) (hO : IsN O 1) (h2 : 2 ≤ m) :
    Calls Try.prog 20 #[.agg #[.string M, .string O]] w fun e w' => e = .returned (.int .i64 13) ∧ Below w.heap.size w w' := by
  have hb := (Below.refl _ w).alloc (Nat.le_refl _) (.cells #[.string M, .string O] 24)
  have hG := GB.new w M O
  have HO := Lib.hid hO
  have HM := Lib.hid hM
  obtain ⟨n1, n2⟩ := tl_ne (hO.pos (by omega))
  obtain ⟨n3, n4⟩ := And.intro (notEmpty_enc (b := m - 1) (by omega)) (toList_enc_nil (b := m - 1) (by omega))
  have HS := Lib.hid (fun w => Sub_any M (enc 1) m 1 w hM isE1 (by omega))
  have u1 : ncmp 1 2 = -1 := rfl
  clear hO hM h2
  go_enter Try.func20, Try.ntmps20
  go_wp2_with fail
  generalize w.alloc _ = w0 at hb hG ⊢
  refine (Valid_any _ _).mono ?_; rw [HM.out.valid]; rintro e w1 ⟨rfl, rfl⟩
  have c0 := hG.c0
  have c1 := hG.c1
  go_wp2_with fail
  refine (Valid_any _ _).mono ?_; rw [HO.out.valid]; rintro e w1 ⟨rfl, rfl⟩
  go_wp2_with fail
  go_cut [3, 4] from 32 (fun v3 v4 wc => v3 = .string (enc (m - 1)) ∧ v4 = .int .i64 0 ∧ GB wc w.heap.size M O ∧ Below w.heap.size w wc)
  case first =>
    go_region_held3 (fun w' => w'.cell? ⟨w.heap.size, 0, none⟩ = some (.string M) ∧ w'.cell? ⟨w.heap.size, 1, none⟩ = some (.string O) ∧ GB w' w.heap.size M O ∧ Below w.heap.size w w')
      (first | exact ⟨c0, c1, hG, hb.drew⟩ | assumption | (refine keepG ?_ bn; assumption))
      (first
        | (go_at_call 22; (with_reducible refine (of1 _).mono ?_); rintro e wn ⟨rfl, bn⟩)
        | (go_at_call 33; (with_reducible refine (HS.out _).mono ?_); rintro e wn ⟨rfl, bn⟩))
    all_goals (go_split_ands; go_wp2_with fail; go_meet; exact ⟨rfl, rfl, by assumption, by assumption⟩)
  case rest =>
    clear hb hG c0 c1
    obtain ⟨rfl, rfl, hG, hb⟩ := hcut
    have c0 := hG.c0
    have c1 := hG.c1
    have z := hb.size
    go_wp2_with fail
    go_region_held3 (fun w' => w'.cell? ⟨w.heap.size, 0, none⟩ = some (.string M) ∧ w'.cell? ⟨w.heap.size, 1, none⟩ = some (.string O) ∧ GB w' w.heap.size M O ∧ Below w.heap.size w w')
      (first | exact ⟨c0, c1, hG, hb.drew⟩ | assumption | (refine keepG ?_ bn; assumption))
      (first
        | (go_at_call 22; (with_reducible refine (of2 _).mono ?_); rintro e wn ⟨rfl, bn⟩)
        | (go_at_call 32; (with_reducible refine (Cmp_any O (enc 2) 1 2 _ HO.out isN2).mono ?_); rw [u1]; rintro e wn ⟨rfl, rfl⟩))
    all_goals (go_split_ands; go_wp2_with fail; go_ret; exact ⟨rfl, by assumption⟩)
set_option maxHeartbeats 4000000 in
theorem gCheck_div' (M O : ByteArray) (m o : Nat) (w : World) (hM : IsN M m) (hO : IsN O o) (h2 : 2 ≤ m) (h3 : 2 ≤ o) (v : Int) (u1 : ncmp o 2 = v) (hv : v = 0 ∨ v = 1) (E : Int) (hE : E = if (m - 1) % o = 0 then 0 else 13) :
    Calls Try.prog 20 #[.agg #[.string M, .string O]] w fun e w' => e = .returned (.int .i64 E) ∧ Below w.heap.size w w' := by
  have hb := (Below.refl _ w).alloc (Nat.le_refl _) (.cells #[.string M, .string O] 24)
  have hG := GB.new w M O
  have HO := Lib.hid hO
  have HM := Lib.hid hM
  obtain ⟨n1, n2⟩ := tl_ne (hO.pos (by omega))
  obtain ⟨n3, n4⟩ := And.intro (notEmpty_enc (b := m - 1) (by omega)) (toList_enc_nil (b := m - 1) (by omega))
  have HS := Lib.hid (fun w => Sub_any M (enc 1) m 1 w hM isE1 (by omega))
  have hL : IsN (enc (m - 1)) (m - 1) := IsN.mk' (Nat.le_trans (blen_mono (by omega)) hM.le)
  have HD := Lib.hid (fun w => DivMod_any (enc (m - 1)) O (m - 1) o w hL hO (by omega))
  clear hO hM h2 h3 hL
  obtain ⟨r, hr⟩ : ∃ r, (m - 1) % o = r := ⟨_, rfl⟩
  rw [hr] at HD hE
  clear hr
  go_enter Try.func20, Try.ntmps20
  go_wp2_with fail
  generalize w.alloc _ = w0 at hb hG ⊢
  refine (Valid_any _ _).mono ?_; rw [HM.out.valid]; rintro e w1 ⟨rfl, rfl⟩
  have c0 := hG.c0
  have c1 := hG.c1
  go_wp2_with fail
  refine (Valid_any _ _).mono ?_; rw [HO.out.valid]; rintro e w1 ⟨rfl, rfl⟩
  go_wp2_with fail
  go_cut [3, 4] from 32 (fun v3 v4 wc => v3 = .string (enc (m - 1)) ∧ v4 = .int .i64 0 ∧ GB wc w.heap.size M O ∧ Below w.heap.size w wc)
  case first =>
    go_region_held3 (fun w' => w'.cell? ⟨w.heap.size, 0, none⟩ = some (.string M) ∧ w'.cell? ⟨w.heap.size, 1, none⟩ = some (.string O) ∧ GB w' w.heap.size M O ∧ Below w.heap.size w w')
      (first | exact ⟨c0, c1, hG, hb.drew⟩ | assumption | (refine keepG ?_ bn; assumption))
      (first
        | (go_at_call 22; (with_reducible refine (of1 _).mono ?_); rintro e wn ⟨rfl, bn⟩)
        | (go_at_call 33; (with_reducible refine (HS.out _).mono ?_); rintro e wn ⟨rfl, bn⟩))
    all_goals (go_split_ands; go_wp2_with fail; go_meet; exact ⟨rfl, rfl, by assumption, by assumption⟩)
  case rest =>
    clear hb hG c0 c1 HS
    obtain ⟨rfl, rfl, hG, hb⟩ := hcut
    have c0 := hG.c0
    have c1 := hG.c1
    have z := hb.size
    go_wp2_with fail
    go_cut [3, 4, 51] from 52 (fun v3 v4 v51 wc => v3 = .string (enc (m - 1)) ∧ v4 = .int .i64 0 ∧ v51 = .bool false ∧ GB wc w.heap.size M O ∧ Below w.heap.size w wc)
    case first =>
      rcases hv with rfl | rfl
      all_goals go_region_held3 (fun w' => w'.cell? ⟨w.heap.size, 0, none⟩ = some (.string M) ∧ w'.cell? ⟨w.heap.size, 1, none⟩ = some (.string O) ∧ GB w' w.heap.size M O ∧ Below w.heap.size w w')
        (first | exact ⟨c0, c1, hG, hb.drew⟩ | assumption | (refine keepG ?_ bn; assumption))
        (first
          | (go_at_call 22; (with_reducible refine (of2 _).mono ?_); rintro e wn ⟨rfl, bn⟩)
          | (go_at_call 32; (with_reducible refine (Cmp_any O (enc 2) o 2 _ HO.out isN2).mono ?_); rw [u1]; rintro e wn ⟨rfl, rfl⟩))
      all_goals (go_split_ands; go_wp2_with fail; go_meet; exact ⟨rfl, rfl, rfl, by assumption, by assumption⟩)
    case rest =>
      clear hb hG c0 c1 z u1
      obtain ⟨rfl, rfl, rfl, hG, hb⟩ := hcut
      have c0 := hG.c0
      have c1 := hG.c1
      have z := hb.size
      go_wp2_with fail
      refine (HD.out _).mono ?_; rintro e w2 ⟨rfl, b2⟩
      by_cases h0 : r = 0
      · subst h0
        have ez : enc 0 = ⟨#[]⟩ := rfl
        rw [ez]
        go_wp2_with fail
        go_ret
        exact ⟨ret_int (show E = 0 by simpa using hE).symm, hb.trans (b2.mono z)⟩
      · obtain ⟨k1, k2⟩ := And.intro (notEmpty_enc (b := r) (by omega)) (toList_enc_nil (b := r) (by omega))
        have HE := Lib.hid (hE.trans (if_neg h0))
        clear h0 hE
        go_wp2_with fail
        go_ret
        exact ⟨ret_int HE.out.symm, hb.trans (b2.mono z)⟩
theorem gCheck_div (M O : ByteArray) (m o : Nat) (w : World) (hM : IsN M m) (hO : IsN O o) (h2 : 2 ≤ m) (h3 : 2 ≤ o) (E : Int) (hE : E = if (m - 1) % o = 0 then 0 else 13) :
    Calls Try.prog 20 #[.agg #[.string M, .string O]] w fun e w' => e = .returned (.int .i64 E) ∧ Below w.heap.size w w' :=
  gCheck_div' M O m o w hM hO h2 h3 _ rfl (by rcases ncmp3 o 2 with ⟨h, _⟩ | ⟨_, h⟩ | ⟨_, h⟩; (· omega); (· exact .inl h); exact .inr h) E hE
theorem gCheck_any (M O : ByteArray) (w : World) :
    Calls Try.prog 20 #[.agg #[.string M, .string O]] w fun e w' => e = .returned (.int .i64 (gE M O)) ∧ Below w.heap.size w w' := by
  unfold gE
  by_cases h : validB M = true ∧ validB O = true
  · have hM := isN_of_valid h.1
    have hO := isN_of_valid h.2
    rw [if_pos h]
    clear h
    by_cases h0 : nv O = 0
    · rw [if_pos h0]
      have eO : O = ⟨#[]⟩ := by rw [h0] at hO; exact empty_of hO
      subst eO
      by_cases h1 : nv M % 2 = 1
      · refine gCheck_odd M (nv M) w hM h1 _ ?_
        simp only [h1, true_and]
      · rw [if_neg fun h => h1 h.1]
        exact gCheck_even M (nv M) w hM (by omega)
    · rw [if_neg h0]
      by_cases h1 : nv M = 0
      · rw [if_neg fun h => by omega]
        exact gCheck_small M O (nv O) 2 w hM.valid hO (by omega) (.inr rfl) fun w => (Sub_range M (enc 1) 0 1 w (by rw [h1] at hM; exact hM) isE1 (by omega)).mono fun _ _ ⟨a, b⟩ => ⟨a, b ▸ Below.refl _ _⟩
      by_cases h2 : nv M = 1
      · rw [if_neg fun h => by omega]
        exact gCheck_small M O (nv O) 0 w hM.valid hO (by omega) (.inl rfl) fun w => Sub_any M (enc 1) 1 1 w (by rw [h2] at hM; exact hM) isE1 (by omega)
      by_cases h3 : nv O = 1
      · rw [if_neg fun h => by omega]
        exact gCheck_low M O (nv M) w hM (by rw [h3] at hO; exact hO) (by omega)
      · refine gCheck_div M O (nv M) (nv O) w hM hO (by omega) (by omega) _ ?_
        by_cases h4 : (nv M - 1) % nv O = 0
        · rw [if_pos ⟨by omega, by omega, h4⟩, if_pos h4]
        · rw [if_neg fun h => h4 h.2.2, if_neg h4]
  · rw [if_neg h]
    exact gCheck_bad M O w h
theorem formed_yes (M O : ByteArray) (w : World) (hM : validB M = true) (hO : validB O = true) :
    Calls Try.prog 48 #[.agg #[.string M, .string O]] w fun e w' => e = .returned (.bool true) ∧ Below w.heap.size w w' := by
  have hb := (Below.refl _ w).alloc (Nat.le_refl _) (.cells #[.string M, .string O] 24)
  have HM := Lib.hid hM
  have HO := Lib.hid hO
  clear hM hO
  go_enter Try.func48, Try.ntmps48
  go_wp2_with fail
  refine (Valid_any _ _).mono ?_; rw [HM.out]; rintro e w1 ⟨rfl, rfl⟩
  go_wp2_with fail
  refine (Valid_any _ _).mono ?_; rw [HO.out]; rintro e w1 ⟨rfl, rfl⟩
  go_wp2_with fail
  go_ret
  exact ⟨rfl, hb⟩
set_option maxHeartbeats 4000000 in
theorem pgHas_any (M O s : ByteArray) (m o : Nat) (w : World) (hM : IsN M m) (hO : IsN O o) (h2 : 2 ≤ m) (h0 : 0 < o) :
    Calls Try.prog 35 #[.agg #[.string M, .string O], .string s] w fun e w' => e = .returned (.bool (validB s && elN m o (nv s))) ∧ Below w.heap.size w w' := by
  have hb := (Below.refl _ w).alloc (Nat.le_refl _) (.cells #[.string M, .string O] 24)
  have hG := GB.new w M O
  have HO := Lib.hid hO
  have HM := Lib.hid hM
  obtain ⟨n1, n2⟩ := tl_ne (hO.pos h0)
  have one : s.size = s.size := rfl
  by_cases hv : validB s = true
  rotate_left
  · have hv' : validB s = false := by simpa using hv
    have HV := Lib.hid hv'
    have HR := Lib.hid (show (validB s && elN m o (nv s)) = false by rw [hv', Bool.false_and])
    clear hv hv' hM hO h0 one
    go_enter Try.func35, Try.ntmps35
    go_wp2_with fail
    refine (formed_yes M O _ HM.out.valid HO.out.valid).mono ?_; rintro e w1 ⟨rfl, b1⟩
    replace hb := hb.trans (b1.mono hb.size)
    go_wp2_with fail
    refine (Valid_any _ _).mono ?_; rw [HV.out]; rintro e w1 ⟨rfl, rfl⟩
    go_wp2_with fail
    go_ret
    exact ⟨ret_bool HR.out.symm, hb⟩
  have hs := isN_of_valid hv
  obtain ⟨x, hx⟩ : ∃ x, nv s = x := ⟨_, rfl⟩
  rw [hx] at hs ⊢
  rw [hv, Bool.true_and]
  clear hv hx one
  have HS := Lib.hid hs
  by_cases x0 : x = 0
  · have HR := Lib.hid (show elN m o x = false by unfold elN; rw [decide_eq_false (by simp [x0])]; rfl)
    have es : s = ⟨#[]⟩ := by rw [x0] at hs; exact empty_of hs
    subst es
    clear x0 hs hM hO h0
    go_enter Try.func35, Try.ntmps35
    go_wp2_with fail
    generalize w.alloc _ = w0 at hb hG ⊢
    refine (formed_yes M O _ HM.out.valid HO.out.valid).mono ?_; rintro e w1 ⟨rfl, b1⟩
    have hG1 := hG.below b1 hG.lt
    replace hb := hb.trans (b1.mono hb.size)
    have c0 := hG1.c0
    have c1 := hG1.c1
    go_wp2_with fail
    refine (Valid_any _ _).mono ?_; rw [HS.out.valid]; rintro e w1 ⟨rfl, rfl⟩
    go_wp2_with fail
    go_ret
    exact ⟨ret_bool HR.out.symm, hb⟩
  obtain ⟨n3, n4⟩ := tl_ne (hs.pos (by omega))
  by_cases xm : m ≤ x
  · have HR := Lib.hid (show elN m o x = false by unfold elN; rw [decide_eq_false (by omega)]; rfl)
    have u1 : decide (0 ≤ ncmp x m) = true := by rw [nge_dec]; exact decide_eq_true xm
    clear x0 hs hM hO h0 xm
    go_enter Try.func35, Try.ntmps35
    go_wp2_with fail
    generalize w.alloc _ = w0 at hb hG ⊢
    refine (formed_yes M O _ HM.out.valid HO.out.valid).mono ?_; rintro e w1 ⟨rfl, b1⟩
    have hG1 := hG.below b1 hG.lt
    replace hb := hb.trans (b1.mono hb.size)
    have c0 := hG1.c0
    have c1 := hG1.c1
    go_wp2_with fail
    refine (Valid_any _ _).mono ?_; rw [HS.out.valid]; rintro e w1 ⟨rfl, rfl⟩
    go_wp2_with fail
    refine (Cmp_any _ _ _ _ _ HS.out HM.out).mono ?_; rintro e w1 ⟨rfl, rfl⟩
    go_wp2_with fail
    go_ret
    exact ⟨ret_bool HR.out.symm, hb⟩
  have u1 : decide (0 ≤ ncmp x m) = false := by rw [nge_dec]; exact decide_eq_false xm
  have hr : ∀ y, x ^ o % m = y → elN m o x = decide (y = 1) := by
    intro y hy; subst hy; unfold elN; rw [decide_eq_true (show x ≠ 0 ∧ x < m by omega), Bool.true_and]; exact decide_eq_decide.2 (by rw [if_neg (by omega)])
  have HX := Lib.hid (fun w => Exp_any s O M x o m w hs hO hM (by omega))
  have hu : x ^ 0 % m = 1 := by rw [Nat.pow_zero, Nat.mod_eq_of_lt (by omega)]
  have HU0 := fun w => Exp_any s ⟨#[]⟩ M x 0 m w hs isN0 hM (by omega)
  rw [hu] at HU0
  have HU := Lib.hid HU0
  obtain ⟨y, hy⟩ : ∃ y, x ^ o % m = y := ⟨_, rfl⟩
  have HR := Lib.hid (hr y hy)
  rw [hy] at HX
  clear x0 hs hM hO h0 xm hr hu HU0 hy
  go_enter Try.func35, Try.ntmps35
  go_wp2_with fail
  generalize w.alloc _ = w0 at hb hG ⊢
  refine (formed_yes M O _ HM.out.valid HO.out.valid).mono ?_; rintro e w1 ⟨rfl, b1⟩
  have hG1 := hG.below b1 hG.lt
  replace hb := hb.trans (b1.mono hb.size)
  clear b1 hG
  have c0 := hG1.c0
  have c1 := hG1.c1
  go_wp2_with fail
  refine (Valid_any _ _).mono ?_; rw [HS.out.valid]; rintro e w1 ⟨rfl, rfl⟩
  go_wp2_with fail
  refine (Cmp_any _ _ _ _ _ HS.out HM.out).mono ?_; rintro e w1 ⟨rfl, rfl⟩
  go_wp2_with fail
  refine (HX.out _).mono ?_; rintro e w2 ⟨rfl, b2⟩
  have hG2 := hG1.below b2 hG1.lt
  replace hb := hb.trans (b2.mono hb.size)
  clear b2 hG1 c0 c1
  have c0 := hG2.c0
  have c1 := hG2.c1
  go_wp2_with fail
  refine (HU.out _).mono ?_; rintro e w3 ⟨rfl, b3⟩
  replace hb := hb.trans (b3.mono hb.size)
  clear b3 hG2 c0 c1
  by_cases y1 : y = 1
  · subst y1
    have e1 := enc_same' 1
    go_wp2_with fail
    go_ret
    exact ⟨ret_bool (by rw [HR.out]; rfl), hb⟩
  · obtain ⟨e1, e2⟩ := enc_ne y1
    replace HR := Lib.hid (HR.out.trans (decide_eq_false y1))
    clear y1
    go_wp2_with fail
    go_ret
    exact ⟨ret_bool HR.out.symm, hb⟩
theorem rone_any (w : World) : Calls Try.prog 52 #[] w fun e w' => e = .returned (.string (enc 1)) ∧ Below w.heap.size w w' := by
  go_enter Try.func52, Try.ntmps52
  go_wp2_with fail
  refine (of1 _).mono ?_; rintro e w1 ⟨rfl, b1⟩
  go_wp2_with fail
  go_ret
  exact ⟨rfl, b1⟩
set_option maxHeartbeats 4000000 in
theorem good_yes (M : ByteArray) (m : Nat) (w : World) (hM : IsN M m) (h1 : m % 2 = 1) (h8 : 8 < m) :
    Calls Try.prog 50 #[.agg #[.string M, .string ⟨#[]⟩]] w fun e w' => e = .returned (.bool true) ∧ Below w.heap.size w w' := by
  have hb := (Below.refl _ w).alloc (Nat.le_refl _) (.cells #[.string M, .string ⟨#[]⟩] 24)
  have hG := GB.new w M ⟨#[]⟩
  have HM := Lib.hid hM
  have u1 : decide (m % 2 = 1) = true := decide_eq_true (by omega)
  have u2 : ncmp m 8 = 1 := by rcases ncmp3 m 8 with ⟨h, _⟩ | ⟨h, _⟩ | ⟨_, h⟩; (· omega); (· omega); exact h
  have v1 := hM.valid
  clear hM h1 h8
  go_enter Try.func50, Try.ntmps50
  go_wp2_with fail
  generalize w.alloc _ = w0 at hb hG ⊢
  have c0 := hG.c0
  have c1 := hG.c1
  go_region_held3 (fun w' => w'.cell? ⟨w.heap.size, 0, none⟩ = some (.string M) ∧ w'.cell? ⟨w.heap.size, 1, none⟩ = some (.string ⟨#[]⟩) ∧ GB w' w.heap.size M ⟨#[]⟩ ∧ Below w.heap.size w w')
    (first | exact ⟨c0, c1, hG, hb.drew⟩ | assumption | (refine keepG ?_ bn; assumption))
    (first
      | (go_at_call 10; (with_reducible refine (Valid_yes M m _ HM.out).mono ?_); rintro e wn ⟨rfl, rfl⟩)
      | (go_at_call 25; (with_reducible refine (bit0_any M m _ HM.out).mono ?_); rw [u1]; rintro e wn ⟨rfl, rfl⟩)
      | (go_at_call 22; (with_reducible refine (of8 _).mono ?_); rintro e wn ⟨rfl, bn⟩)
      | (go_at_call 32; (with_reducible refine (Cmp_any M (enc 8) m 8 _ HM.out isN8).mono ?_); rw [u2]; rintro e wn ⟨rfl, rfl⟩))
  all_goals (go_split_ands; go_wp2_with fail; go_ret; exact ⟨rfl, by assumption⟩)
set_option maxHeartbeats 4000000 in
theorem rsHas_any (M s : ByteArray) (m : Nat) (w : World) (hM : IsN M m) (h1 : m % 2 = 1) (h8 : 8 < m) :
    Calls Try.prog 36 #[.agg #[.string M, .string ⟨#[]⟩], .string s] w fun e w' => e = .returned (.bool (validB s && elN m 0 (nv s))) ∧ Below w.heap.size w w' := by
  have hb := (Below.refl _ w).alloc (Nat.le_refl _) (.cells #[.string M, .string ⟨#[]⟩] 24)
  have hG := GB.new w M ⟨#[]⟩
  have HM := Lib.hid hM
  have HGO := Lib.hid (fun w => good_yes M m w hM h1 h8)
  by_cases hv : validB s = true
  rotate_left
  · have hv' : validB s = false := by simpa using hv
    have HV := Lib.hid hv'
    have HR := Lib.hid (show (validB s && elN m 0 (nv s)) = false by rw [hv', Bool.false_and])
    clear hv hv' hM h1 h8
    go_enter Try.func36, Try.ntmps36
    go_wp2_with fail
    refine (HGO.out _).mono ?_; rintro e w1 ⟨rfl, b1⟩
    replace hb := hb.trans (b1.mono hb.size)
    go_wp2_with fail
    refine (Valid_any _ _).mono ?_; rw [HV.out]; rintro e w1 ⟨rfl, rfl⟩
    go_wp2_with fail
    go_ret
    exact ⟨ret_bool HR.out.symm, hb⟩
  have hs := isN_of_valid hv
  obtain ⟨x, hx⟩ : ∃ x, nv s = x := ⟨_, rfl⟩
  rw [hx] at hs ⊢
  rw [hv, Bool.true_and]
  clear hv hx
  have HS := Lib.hid hs
  by_cases x0 : x = 0
  · have HR := Lib.hid (show elN m 0 x = false by unfold elN; rw [decide_eq_false (by simp [x0])]; rfl)
    have es : s = ⟨#[]⟩ := by rw [x0] at hs; exact empty_of hs
    subst es
    clear x0 hs hM h1 h8
    go_enter Try.func36, Try.ntmps36
    go_wp2_with fail
    refine (HGO.out _).mono ?_; rintro e w1 ⟨rfl, b1⟩
    replace hb := hb.trans (b1.mono hb.size)
    go_wp2_with fail
    refine (Valid_any _ _).mono ?_; rw [HS.out.valid]; rintro e w1 ⟨rfl, rfl⟩
    go_wp2_with fail
    go_ret
    exact ⟨ret_bool HR.out.symm, hb⟩
  obtain ⟨n3, n4⟩ := tl_ne (hs.pos (by omega))
  by_cases xm : m ≤ x
  · have HR := Lib.hid (show elN m 0 x = false by unfold elN; rw [decide_eq_false (by omega)]; rfl)
    have u1 : decide (0 ≤ ncmp x m) = true := by rw [nge_dec]; exact decide_eq_true xm
    clear x0 hs hM h1 h8 xm
    go_enter Try.func36, Try.ntmps36
    go_wp2_with fail
    generalize w.alloc _ = w0 at hb hG ⊢
    refine (HGO.out _).mono ?_; rintro e w1 ⟨rfl, b1⟩
    have hG1 := hG.below b1 hG.lt
    replace hb := hb.trans (b1.mono hb.size)
    have c0 := hG1.c0
    have c1 := hG1.c1
    go_wp2_with fail
    refine (Valid_any _ _).mono ?_; rw [HS.out.valid]; rintro e w1 ⟨rfl, rfl⟩
    go_wp2_with fail
    refine (Cmp_any _ _ _ _ _ HS.out HM.out).mono ?_; rintro e w1 ⟨rfl, rfl⟩
    go_wp2_with fail
    go_ret
    exact ⟨ret_bool HR.out.symm, hb⟩
  have u1 : decide (0 ≤ ncmp x m) = false := by rw [nge_dec]; exact decide_eq_false xm
  have hr : ∀ y, Nat.gcd x m = y → elN m 0 x = decide (y = 1) := by
    intro y hy; subst hy; unfold elN; rw [decide_eq_true (show x ≠ 0 ∧ x < m by omega), Bool.true_and]; exact decide_eq_decide.2 (by rw [if_pos rfl])
  have HX := Lib.hid (fun w => Gcd_any s M x m w hs hM)
  obtain ⟨y, hy⟩ : ∃ y, Nat.gcd x m = y := ⟨_, rfl⟩
  have HR := Lib.hid (hr y hy)
  rw [hy] at HX
  clear x0 hs hM h1 h8 xm hr hy
  go_enter Try.func36, Try.ntmps36
  go_wp2_with fail
  generalize w.alloc _ = w0 at hb hG ⊢
  refine (HGO.out _).mono ?_; rintro e w1 ⟨rfl, b1⟩
  have hG1 := hG.below b1 hG.lt
  replace hb := hb.trans (b1.mono hb.size)
  clear b1 hG
  have c0 := hG1.c0
  have c1 := hG1.c1
  go_wp2_with fail
  refine (Valid_any _ _).mono ?_; rw [HS.out.valid]; rintro e w1 ⟨rfl, rfl⟩
  go_wp2_with fail
  refine (Cmp_any _ _ _ _ _ HS.out HM.out).mono ?_; rintro e w1 ⟨rfl, rfl⟩
  go_wp2_with fail
  refine (HX.out _).mono ?_; rintro e w2 ⟨rfl, b2⟩
  replace hb := hb.trans (b2.mono hb.size)
  clear b2 hG1 c0 c1
  go_wp2_with fail
  refine (rone_any _).mono ?_; rintro e w3 ⟨rfl, b3⟩
  replace hb := hb.trans (b3.mono hb.size)
  clear b3
  by_cases y1 : y = 1
  · subst y1
    have e1 := enc_same' 1
    go_wp2_with fail
    go_ret
    exact ⟨ret_bool (by rw [HR.out]; rfl), hb⟩
  · obtain ⟨e1, e2⟩ := enc_ne y1
    replace HR := Lib.hid (HR.out.trans (decide_eq_false y1))
    clear y1
    go_wp2_with fail
    go_ret
    exact ⟨ret_bool HR.out.symm, hb⟩
/-- an element of a well-formed group -/
theorem has_any (M O s : ByteArray) (w : World) (h : gE M O = 0) :
    Calls Try.prog 21 #[.agg #[.string M, .string O], .string s] w fun e w' => e = .returned (.bool (validB s && elN (nv M) (nv O) (nv s))) ∧ Below w.heap.size w w' := by
  obtain ⟨hM, hO, h2, h3⟩ := gE_ok h
  have hb := (Below.refl _ w).alloc (Nat.le_refl _) (.cells #[.string M, .string O] 24)
  have hG := GB.new w M O
  by_cases h0 : nv O = 0
  · have eO : O = ⟨#[]⟩ := by rw [h0] at hO; exact empty_of hO
    subst eO
    have HH := Lib.hid (fun w => rsHas_any M s (nv M) w hM (h3 h0).1 (h3 h0).2)
    rw [h0]
    clear h hM hO h2 h3
    go_enter Try.func21, Try.ntmps21
    go_wp2_with fail
    generalize w.alloc _ = w0 at hb hG ⊢
    have c0 := hG.c0
    have c1 := hG.c1
    go_wp2_with fail
    refine (HH.out _).mono ?_; rintro e w1 ⟨rfl, b1⟩
    go_wp2_with fail
    go_ret
    exact ⟨rfl, hb.trans (b1.mono hb.size)⟩
  · have HH := Lib.hid (fun w => pgHas_any M O s (nv M) (nv O) w hM hO h2 (by omega))
    obtain ⟨n1, n2⟩ := tl_ne (hO.pos (by omega))
    clear h hM hO h2 h3 h0
    go_enter Try.func21, Try.ntmps21
    go_wp2_with fail
    generalize w.alloc _ = w0 at hb hG ⊢
    have c0 := hG.c0
    have c1 := hG.c1
    go_wp2_with fail
    refine (HH.out _).mono ?_; rintro e w1 ⟨rfl, b1⟩
    go_wp2_with fail
    go_ret
    exact ⟨rfl, hb.trans (b1.mono hb.size)⟩
theorem gHas_any (M O s : ByteArray) (w : World) :
    Calls Try.prog 7 #[.agg #[.string M, .string O], .string s] w fun e w' => e = .returned (.bool (hasB M O s)) ∧ Below w.heap.size w w' := by
  have hb := (Below.refl _ w).alloc (Nat.le_refl _) (.cells #[.string M, .string O] 24)
  have hG := GB.new w M O
  rcases gE_cases M O with h | h | h
  · have hr : hasB M O s = (validB s && elN (nv M) (nv O) (nv s)) := by unfold hasB; rw [decide_eq_true h, Bool.true_and]
    rw [hr]
    have HH := Lib.hid (fun w => has_any M O s w h)
    have HE := Lib.hid h
    clear hr h
    go_enter Try.func7, Try.ntmps7
    go_wp2_with fail
    generalize w.alloc _ = w0 at hb hG ⊢
    refine (gCheck_any M O _).mono ?_; rw [HE.out]; rintro e w1 ⟨rfl, b1⟩
    have hG1 := hG.below b1 hG.lt
    replace hb := hb.trans (b1.mono hb.size)
    clear b1 hG
    have c0 := hG1.c0
    have c1 := hG1.c1
    go_wp2_with fail
    refine (HH.out _).mono ?_; rintro e w2 ⟨rfl, b2⟩
    go_wp2_with fail
    go_ret
    exact ⟨rfl, hb.trans (b2.mono hb.size)⟩
  all_goals
    have hr : hasB M O s = false := by unfold hasB; rw [h]; rfl
    rw [hr]
    have HE := Lib.hid h
    clear hr h
    go_enter Try.func7, Try.ntmps7
    go_wp2_with fail
    generalize w.alloc _ = w0 at hb hG ⊢
    refine (gCheck_any M O _).mono ?_; rw [HE.out]; rintro e w1 ⟨rfl, b1⟩
    go_wp2_with fail
    go_ret
    exact ⟨rfl, hb.trans (b1.mono hb.size)⟩
end Go.Proofs.Ytmbenndmkacjpaa
