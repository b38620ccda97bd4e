import Derived.Test.YtapmeiaonnnmdaaGreatDoorSgA
/- coins, simulator: tapes with values (the first part printed by gens22.py). -/
namespace Go.Proofs.YtapmeiaonnnmdaaGreatDoor
open Go.RowKit Num
set_option maxRecDepth 20000
set_option linter.unusedVariables false
theorem idx_cg (ao : Option Addr) (c n : Nat) (l : List ByteArray) (P : ByteArray → Bool) (w : World) (hl : NS w ao l) (hn : l.length = n) (h1 : n ≤ maxLen) (HF : ∀ wr, Below w.heap.size w wr → ∀ x ∈ l, Calls Tryz.prog 110 #[.string x] wr fun e w' => e = .returned (.bool (P x)) ∧ Below wr.heap.size wr w') :
    Calls Tryz.prog 74 #[.slice ao n c, .func (.func 110) #[] #[]] w fun e w' => (∃ x : Int, e = .returned (.int .i64 x) ∧ (decide (0 ≤ x) = l.any P)) ∧ Below w.heap.size w w' := by
  unfold maxLen at h1
  have HN := Lib.hid hn
  have HFF := Lib.hid HF
  have HL := Lib.hid hl
  clear hn hl HF
  go_enter Tryz.func74, Tryz.ntmps74
  go_wp2_with fail
  go_loopw [8] (fun v8 wr => ∃ k : Nat, k ≤ n ∧ v8 = .int .i64 k ∧ Hid (∀ j (hj : j < l.length), j < k → P l[j] = false) ∧ Below w.heap.size w wr) (fun v8 _ => n - (intOf v8).toNat)
  case atStart => exact ⟨0, by omega, rfl, fun j _ h => by omega, Below.refl _ _⟩
  case round =>
    obtain ⟨k, hk, rfl, hv, hB⟩ := hrel
    by_cases hlt : k < n
    · have hkl : k < l.length := by rw [HN.out]; exact hlt
      obtain ⟨b, off, rfl, d0⟩ := (HL.out.keepL (cells_keepL hB (Nat.le_refl _))) k hkl
      obtain ⟨X, hX⟩ : ∃ X, l[k] = X := ⟨_, rfl⟩
      rw [hX] at d0
      have hXm : X ∈ l := by rw [← hX]; exact List.getElem_mem hkl
      have HX := HFF.out wr hB X hXm
      cases he : P X
      · have HST : Hid (∀ j (hj : j < l.length), j < k + 1 → P l[j] = false) := fun j hj hjk => by
          by_cases e : j = k
          · subst e; rw [hX, he]
          · exact hv.out j hj (by omega)
        rw [he] at HX
        have HX := Lib.hid HX
        clear hX hXm he hv
        go_wp2_with fail
        refine HX.out.mono ?_; rintro e w1 ⟨rfl, b1⟩
        have hB2 := hB.trans (b1.mono hB.size)
        go_wp2_with fail
        exact ⟨⟨k + 1, by omega, by go_num, HST, hB2⟩, by simp [intOf]; omega⟩
      · have HR : Hid (l.any P = true) := List.any_eq_true.2 ⟨X, hXm, he⟩
        rw [he] at HX
        have HX := Lib.hid HX
        clear hX hXm he hv
        go_wp2_with fail
        refine HX.out.mono ?_; rintro e w1 ⟨rfl, b1⟩
        have hB2 := hB.trans (b1.mono hB.size)
        go_wp2_with fail
        go_ret
        exact ⟨⟨_, rfl, by rw [HR.out]; exact decide_eq_true (by omega)⟩, hB2⟩
    · obtain rfl : k = n := by omega
      have HR : Hid (l.any P = false) := by
        show l.any P = false
        rw [Bool.eq_false_iff]
        intro h
        obtain ⟨x, hx, hd⟩ := List.any_eq_true.1 h
        obtain ⟨j, hj, rfl⟩ := List.mem_iff_getElem.1 hx
        rw [hv.out j hj (by rw [HN.out] at hj; exact hj)] at hd
        cases hd
      clear hv
      go_wp2_with fail
      go_ret
      exact ⟨⟨_, rfl, by rw [HR.out]; decide⟩, hB⟩
theorem con_cg (ao : Option Addr) (c n : Nat) (l : List ByteArray) (P : ByteArray → Bool) (w : World) (hl : NS w ao l) (hn : l.length = n) (h1 : n ≤ maxLen) (HF : ∀ wr, Below w.heap.size w wr → ∀ x ∈ l, Calls Tryz.prog 110 #[.string x] wr fun e w' => e = .returned (.bool (P x)) ∧ Below wr.heap.size wr w') :
    Calls Tryz.prog 44 #[.slice ao n c, .func (.func 110) #[] #[]] w fun e w' => e = .returned (.bool (l.any P)) ∧ Below w.heap.size w w' := by
  have H := Lib.hid (idx_cg ao c n l P w hl hn h1 HF)
  obtain ⟨V, hV⟩ : ∃ V, l.any P = V := ⟨_, rfl⟩
  rw [hV] at H ⊢
  clear hl hn h1 HF hV
  go_enter Tryz.func44, Tryz.ntmps44
  go_wp2_with fail
  refine H.out.mono ?_; rintro e w1 ⟨⟨x, rfl, hx⟩, b1⟩
  have HX := Lib.hid hx
  clear hx
  go_wp2_with fail
  go_ret
  exact ⟨ret_bool HX.out, b1⟩
theorem idx_tp (ao : Option Addr) (c n : Nat) (l : List ByteArray) (P : ByteArray → Bool) (w : World) (hl : NS w ao l) (hn : l.length = n) (h1 : n ≤ maxLen) (HF : ∀ wr, Below w.heap.size w wr → ∀ x ∈ l, Calls Tryz.prog 45 #[.string x] wr fun e w' => e = .returned (.bool (P x)) ∧ Below wr.heap.size wr w') :
    Calls Tryz.prog 74 #[.slice ao n c, .func (.func 45) #[] #[]] w fun e w' => (∃ x : Int, e = .returned (.int .i64 x) ∧ (decide (0 ≤ x) = l.any P)) ∧ Below w.heap.size w w' := by
  unfold maxLen at h1
  have HN := Lib.hid hn
  have HFF := Lib.hid HF
  have HL := Lib.hid hl
  clear hn hl HF
  go_enter Tryz.func74, Tryz.ntmps74
  go_wp2_with fail
  go_loopw [8] (fun v8 wr => ∃ k : Nat, k ≤ n ∧ v8 = .int .i64 k ∧ Hid (∀ j (hj : j < l.length), j < k → P l[j] = false) ∧ Below w.heap.size w wr) (fun v8 _ => n - (intOf v8).toNat)
  case atStart => exact ⟨0, by omega, rfl, fun j _ h => by omega, Below.refl _ _⟩
  case round =>
    obtain ⟨k, hk, rfl, hv, hB⟩ := hrel
    by_cases hlt : k < n
    · have hkl : k < l.length := by rw [HN.out]; exact hlt
      obtain ⟨b, off, rfl, d0⟩ := (HL.out.keepL (cells_keepL hB (Nat.le_refl _))) k hkl
      obtain ⟨X, hX⟩ : ∃ X, l[k] = X := ⟨_, rfl⟩
      rw [hX] at d0
      have hXm : X ∈ l := by rw [← hX]; exact List.getElem_mem hkl
      have HX := HFF.out wr hB X hXm
      cases he : P X
      · have HST : Hid (∀ j (hj : j < l.length), j < k + 1 → P l[j] = false) := fun j hj hjk => by
          by_cases e : j = k
          · subst e; rw [hX, he]
          · exact hv.out j hj (by omega)
        rw [he] at HX
        have HX := Lib.hid HX
        clear hX hXm he hv
        go_wp2_with fail
        refine HX.out.mono ?_; rintro e w1 ⟨rfl, b1⟩
        have hB2 := hB.trans (b1.mono hB.size)
        go_wp2_with fail
        exact ⟨⟨k + 1, by omega, by go_num, HST, hB2⟩, by simp [intOf]; omega⟩
      · have HR : Hid (l.any P = true) := List.any_eq_true.2 ⟨X, hXm, he⟩
        rw [he] at HX
        have HX := Lib.hid HX
        clear hX hXm he hv
        go_wp2_with fail
        refine HX.out.mono ?_; rintro e w1 ⟨rfl, b1⟩
        have hB2 := hB.trans (b1.mono hB.size)
        go_wp2_with fail
        go_ret
        exact ⟨⟨_, rfl, by rw [HR.out]; exact decide_eq_true (by omega)⟩, hB2⟩
    · obtain rfl : k = n := by omega
      have HR : Hid (l.any P = false) := by
        show l.any P = false
        rw [Bool.eq_false_iff]
        intro h
        obtain ⟨x, hx, hd⟩ := List.any_eq_true.1 h
        obtain ⟨j, hj, rfl⟩ := List.mem_iff_getElem.1 hx
        rw [hv.out j hj (by rw [HN.out] at hj; exact hj)] at hd
        cases hd
      clear hv
      go_wp2_with fail
      go_ret
      exact ⟨⟨_, rfl, by rw [HR.out]; decide⟩, hB⟩
theorem con_tp (ao : Option Addr) (c n : Nat) (l : List ByteArray) (P : ByteArray → Bool) (w : World) (hl : NS w ao l) (hn : l.length = n) (h1 : n ≤ maxLen) (HF : ∀ wr, Below w.heap.size w wr → ∀ x ∈ l, Calls Tryz.prog 45 #[.string x] wr fun e w' => e = .returned (.bool (P x)) ∧ Below wr.heap.size wr w') :
    Calls Tryz.prog 44 #[.slice ao n c, .func (.func 45) #[] #[]] w fun e w' => e = .returned (.bool (l.any P)) ∧ Below w.heap.size w w' := by
  have H := Lib.hid (idx_tp ao c n l P w hl hn h1 HF)
  obtain ⟨V, hV⟩ : ∃ V, l.any P = V := ⟨_, rfl⟩
  rw [hV] at H ⊢
  clear hl hn h1 HF hV
  go_enter Tryz.func44, Tryz.ntmps44
  go_wp2_with fail
  refine H.out.mono ?_; rintro e w1 ⟨⟨x, rfl, hx⟩, b1⟩
  have HX := Lib.hid hx
  clear hx
  go_wp2_with fail
  go_ret
  exact ⟨ret_bool HX.out, b1⟩
/-- coins.good$1, simulator.tape$1 -/
theorem cg1_any (s : ByteArray) (w : World) : Calls Tryz.prog 110 #[.string s] w fun e w' => e = .returned (.bool (!validB s)) ∧ Below w.heap.size w w' := by
  have H := Lib.hid (nvalidQ (s := s) rfl)
  cases h : validB s
  all_goals
    rw [h] at H
    go_enter Tryz.func110, Tryz.ntmps110
    go_wp2_with fail
    refine (H.out _).mono ?_; rintro e w1 ⟨rfl, rfl⟩
    go_wp2_with fail
    go_ret
    exact ⟨rfl, Below.refl _ _⟩
theorem tp1_any (s : ByteArray) (w : World) : Calls Tryz.prog 45 #[.string s] w fun e w' => e = .returned (.bool (!validB s)) ∧ Below w.heap.size w w' := by
  have H := Lib.hid (nvalidQ (s := s) rfl)
  cases h : validB s
  all_goals
    rw [h] at H
    go_enter Tryz.func45, Tryz.ntmps45
    go_wp2_with fail
    refine (H.out _).mono ?_; rintro e w1 ⟨rfl, rfl⟩
    go_wp2_with fail
    go_ret
    exact ⟨rfl, Below.refl _ _⟩
/-- a tape with values -/
def TpV (vo : Option Addr) (n c : Nat) (at' : Int) : Value := .agg #[.slice vo n c, .string ⟨#[]⟩, .int .i64 at']
theorem good_any (vo : Option Addr) (n c : Nat) (L : List ByteArray) (w : World) (hL : NS w vo L) (hn : L.length = n) (h1 : n ≤ maxLen) (hv : L.all validB = true) :
    Calls Tryz.prog 77 #[.agg #[.slice vo n c, .string ⟨#[]⟩, .int .i64 0]] w fun e w' => e = .returned (.bool true) ∧ Below w.heap.size w w' := by
  have hany : L.any (fun x => !validB x) = false := by
    rw [List.any_eq_false]
    intro x hx
    rw [List.all_eq_true.1 hv x hx]
    decide
  have H := Lib.hid (fun w' (hb : Below w.heap.size w w') => con_cg vo c n L (fun x => !validB x) w' (hL.keepL (cells_keepL hb (Nat.le_refl _))) hn h1 (fun wr _ x _ => cg1_any x wr))
  rw [hany] at H
  clear hL hn hv hany
  go_enter Tryz.func77, Tryz.ntmps77
  go_wp2_with fail
  have hb := (Below.refl _ w).alloc (Nat.le_refl _) (.cells #[.slice vo n c, .string ⟨#[]⟩, .int .i64 0] 63)
  refine (H.out _ hb).mono ?_; rintro e w1 ⟨rfl, b1⟩
  have hb1 := hb.trans (b1.mono hb.size)
  go_wp2_with fail
  go_ret
  exact ⟨rfl, hb1⟩
/-- ready: a good tape, a number that is not 0 -/
theorem tready_any (vo : Option Addr) (n c : Nat) (L : List ByteArray) (s : ByteArray) (w : World) (hL : NS w vo L) (hn : L.length = n) (h1 : n ≤ maxLen) (hv : L.all validB = true) (hs : validB s = true) (he : emB s = false) :
    Calls Tryz.prog 47 #[.agg #[.slice vo n c, .string ⟨#[]⟩, .int .i64 0], .string s] w fun e w' => e = .returned (.int .i64 0) ∧ Below w.heap.size w w' := by
  have H := Lib.hid (fun w' (hb : Below w.heap.size w w') => good_any vo n c L w' (hL.keepL (cells_keepL hb (Nat.le_refl _))) hn h1 hv)
  have HV := Lib.hid (nvalidQ hs)
  obtain ⟨m0, m1, m2⟩ : emB s = false ∧ (s.toList = [] → False) ∧ s.toList.isEmpty = false := by
    rcases em_cases s with ⟨h, _⟩ | h
    · rw [he] at h; cases h
    · exact h
  clear hL hn hv hs he
  have hb := (Below.refl _ w).alloc (Nat.le_refl _) (.cells #[.slice vo n c, .string ⟨#[]⟩, .int .i64 0] 63)
  go_enter Tryz.func47, Tryz.ntmps47
  go_wp2_with fail
  refine (H.out _ hb).mono ?_; rintro e w1 ⟨rfl, b1⟩
  have hb1 := hb.trans (b1.mono hb.size)
  go_wp2_with fail
  refine (HV.out _).mono ?_; rintro e w2 ⟨rfl, rfl⟩
  go_wp2_with fail
  go_ret
  exact ⟨rfl, hb1⟩
end Go.Proofs.YtapmeiaonnnmdaaGreatDoor
