import Derived.Test.YtdlbnioidfhhcaaGreatSgB
/- pedersen: formed, valid, Check, Commit, Opens. -/
namespace Go.Proofs.YtdlbnioidfhhcaaGreat
open Go.RowKit Num
set_option maxRecDepth 20000
set_option linter.unusedVariables false
/-- a key -/
structure PK where
  M : ByteArray
  O : ByteArray
  G : ByteArray
  H : ByteArray
def PK.fm (k : PK) : Bool := validB k.M && (validB k.O && (validB k.G && validB k.H))
def PK.one (k : PK) : Bool := (k.G.toList == (enc 1).toList) || ((k.H.toList == (enc 1).toList) || (k.G.toList == k.H.toList))
/-- the error of a key -/
def PK.e (k : PK) : Int := if k.fm = true then (if gE k.M k.O = 0 then (if (hasB k.M k.O k.G && (hasB k.M k.O k.H && !k.one)) = true then 0 else 13) else gE k.M k.O) else 3
def KYB (w : World) (b : Nat) (M O G H : ByteArray) : Prop := w.heap[b]? = some (.cells #[.string M, .string O, .string G, .string H] 28 (0, 0))
section
variable {w w' : World} {b K : Nat} {M O G H : ByteArray}
theorem KYB.lt (h : KYB w b M O G H) : b < w.heap.size := (Array.getElem?_eq_some_iff.1 h).1
theorem KYB.c0 (h : KYB w b M O G H) : w.cell? ⟨b, 0, none⟩ = some (.string M) := by rw [Lib.cell_of_heap h]; rfl
theorem KYB.c1 (h : KYB w b M O G H) : w.cell? ⟨b, 1, none⟩ = some (.string O) := by rw [Lib.cell_of_heap h]; rfl
theorem KYB.c2 (h : KYB w b M O G H) : w.cell? ⟨b, 2, none⟩ = some (.string G) := by rw [Lib.cell_of_heap h]; rfl
theorem KYB.c3 (h : KYB w b M O G H) : w.cell? ⟨b, 3, none⟩ = some (.string H) := by rw [Lib.cell_of_heap h]; rfl
theorem KYB.new (w : World) (M O G H : ByteArray) : KYB (w.alloc (.cells #[.string M, .string O, .string G, .string H] 28)) w.heap.size M O G H := heap_alloc_new w _
theorem KYB.below (h : KYB w b M O G H) (hb : Below K w w') (hK : b < K) : KYB w' b M O G H := (hb.block b hK).trans h
end
theorem pformed_any (M O G H : ByteArray) (w : World) :
    Calls Tryz.prog 33 #[.agg #[.string M, .string O, .string G, .string H]] w fun e w' => e = .returned (.bool (PK.fm ⟨M, O, G, H⟩)) ∧ Below w.heap.size w w' := by
  have hb := (Below.refl _ w).alloc (Nat.le_refl _) (.cells #[.string M, .string O, .string G, .string H] 28)
  have hY := KYB.new w M O G H
  have c0 := hY.c0
  have c1 := hY.c1
  have c2 := hY.c2
  have c3 := hY.c3
  unfold PK.fm
  simp only
  cases h1 : validB M
  · have H1 := Lib.hid (nvalidQ h1)
    go_enter Tryz.func33, Tryz.ntmps33
    go_wp2_with fail
    refine (H1.out _).mono ?_; rintro e w1 ⟨rfl, rfl⟩
    go_wp2_with fail
    go_ret
    exact ⟨rfl, hb⟩
  have H1 := Lib.hid (nvalidQ h1)
  cases h2 : validB O
  · have H2 := Lib.hid (nvalidQ h2)
    go_enter Tryz.func33, Tryz.ntmps33
    go_wp2_with fail
    refine (H1.out _).mono ?_; rintro e w1 ⟨rfl, rfl⟩
    go_wp2_with fail
    refine (H2.out _).mono ?_; rintro e w1 ⟨rfl, rfl⟩
    go_wp2_with fail
    go_ret
    exact ⟨rfl, hb⟩
  have H2 := Lib.hid (nvalidQ h2)
  cases h3 : validB G
  · have H3 := Lib.hid (nvalidQ h3)
    go_enter Tryz.func33, Tryz.ntmps33
    go_wp2_with fail
    refine (H1.out _).mono ?_; rintro e w1 ⟨rfl, rfl⟩
    go_wp2_with fail
    refine (H2.out _).mono ?_; rintro e w1 ⟨rfl, rfl⟩
    go_wp2_with fail
    refine (H3.out _).mono ?_; rintro e w1 ⟨rfl, rfl⟩
    go_wp2_with fail
    go_ret
    exact ⟨rfl, hb⟩
  have H3 := Lib.hid (nvalidQ h3)
  cases h4 : validB H
  all_goals
    have H4 := Lib.hid (nvalidQ h4)
    go_enter Tryz.func33, Tryz.ntmps33
    go_wp2_with fail
    refine (H1.out _).mono ?_; rintro e w1 ⟨rfl, rfl⟩
    go_wp2_with fail
    refine (H2.out _).mono ?_; rintro e w1 ⟨rfl, rfl⟩
    go_wp2_with fail
    refine (H3.out _).mono ?_; rintro e w1 ⟨rfl, rfl⟩
    go_wp2_with fail
    refine (H4.out _).mono ?_; rintro e w1 ⟨rfl, rfl⟩
    go_wp2_with fail
    go_ret
    exact ⟨rfl, hb⟩
theorem pvalid_any (g1 g2 : Bool) (s1 s2 : ByteArray) (w : World) :
    Calls Tryz.prog 34 #[.agg #[.bool g1, .string s1, .bool g2, .string s2]] w fun e w' => e = .returned (.bool (ivB (g1, s1) && ivB (g2, s2))) ∧ Below w.heap.size w w' := by
  have hb := (Below.refl _ w).alloc (Nat.le_refl _) (.cells #[.bool g1, .string s1, .bool g2, .string s2] 52)
  have hY : (w.alloc (.cells #[.bool g1, .string s1, .bool g2, .string s2] 52)).heap[w.heap.size]? = _ := heap_alloc_new w _
  have c0 : (w.alloc (.cells #[.bool g1, .string s1, .bool g2, .string s2] 52)).cell? ⟨w.heap.size, 0, none⟩ = some (.bool g1) := by rw [Lib.cell_of_heap hY]; rfl
  have c1 : (w.alloc (.cells #[.bool g1, .string s1, .bool g2, .string s2] 52)).cell? ⟨w.heap.size, 1, none⟩ = some (.string s1) := by rw [Lib.cell_of_heap hY]; rfl
  have c2 : (w.alloc (.cells #[.bool g1, .string s1, .bool g2, .string s2] 52)).cell? ⟨w.heap.size, 2, none⟩ = some (.bool g2) := by rw [Lib.cell_of_heap hY]; rfl
  have c3 : (w.alloc (.cells #[.bool g1, .string s1, .bool g2, .string s2] 52)).cell? ⟨w.heap.size, 3, none⟩ = some (.string s2) := by rw [Lib.cell_of_heap hY]; rfl
  clear hY
  cases h1 : ivB (g1, s1)
  · have H1 := Lib.hid (ivalidW h1)
    go_enter Tryz.func34, Tryz.ntmps34
    go_wp2_with fail
    refine (H1.out _).mono ?_; rintro e w1 ⟨rfl, b1⟩
    have hb1 := hb.trans (b1.mono hb.size)
    go_wp2_with fail
    go_ret
    exact ⟨rfl, hb1⟩
  have H1 := Lib.hid (ivalidW h1)
  cases h2 : ivB (g2, s2)
  all_goals
    have H2 := Lib.hid (ivalidW h2)
    go_enter Tryz.func34, Tryz.ntmps34
    go_wp2_with fail
    refine (H1.out _).mono ?_; rintro e w1 ⟨rfl, b1⟩
    have hb1 := hb.trans (b1.mono hb.size)
    have d2 := cells_keepL b1 (Nat.le_refl _) _ _ c2
    have d3 := cells_keepL b1 (Nat.le_refl _) _ _ c3
    go_wp2_with fail
    refine (H2.out _).mono ?_; rintro e w2 ⟨rfl, b2⟩
    have hb2 := hb1.trans (b2.mono hb1.size)
    go_wp2_with fail
    go_ret
    exact ⟨rfl, hb2⟩
theorem PK.e_form {k : PK} (h : k.fm = false) : k.e = 3 := by unfold PK.e; rw [if_neg (by rw [h]; decide)]
theorem PK.e_group {k : PK} (h : k.fm = true) (h2 : gE k.M k.O ≠ 0) : k.e = gE k.M k.O := by unfold PK.e; rw [if_pos h, if_neg h2]
theorem PK.e_last {k : PK} (h : k.fm = true) (h2 : gE k.M k.O = 0) : k.e = if (hasB k.M k.O k.G && (hasB k.M k.O k.H && !k.one)) = true then 0 else 13 := by unfold PK.e; rw [if_pos h, if_pos h2]
set_option maxHeartbeats 4000000 in
theorem pcheck_any (M O G H : ByteArray) (w : World) :
    Calls Tryz.prog 17 #[.agg #[.string M, .string O, .string G, .string H]] w fun e w' => e = .returned (.int .i64 (PK.e ⟨M, O, G, H⟩)) ∧ Below w.heap.size w w' := by
  have hb := (Below.refl _ w).alloc (Nat.le_refl _) (.cells #[.string M, .string O, .string G, .string H] 28)
  have hY := KYB.new w M O G H
  have c0 := hY.c0
  have c1 := hY.c1
  have c2 := hY.c2
  have c3 := hY.c3
  have H1 := Lib.hid (fun w' => pformed_any M O G H w')
  by_cases hf : PK.fm ⟨M, O, G, H⟩ = true
  rotate_left
  · rw [PK.e_form (Bool.eq_false_iff.2 hf)]
    rw [Bool.eq_false_iff.2 hf] at H1
    go_enter Tryz.func17, Tryz.ntmps17
    go_wp2_with fail
    refine (H1.out _).mono ?_; rintro e w1 ⟨rfl, b1⟩
    have hb1 := hb.trans (b1.mono hb.size)
    go_wp2_with fail
    go_ret
    exact ⟨rfl, hb1⟩
  have H2 := Lib.hid (fun w' => gCheck_any M O w')
  rw [hf] at H1
  by_cases hg : gE M O = 0
  rotate_left
  · rw [PK.e_group hf hg]
    simp only
    generalize gE M O = E at hg H2 ⊢
    have hE : (E != 0) = true := by simpa using hg
    go_enter Tryz.func17, Tryz.ntmps17
    go_wp2_with fail
    refine (H1.out _).mono ?_; rintro e w1 ⟨rfl, b1⟩
    have hb1 := hb.trans (b1.mono hb.size)
    have d0 := cells_keepL b1 (Nat.le_refl _) _ _ c0
    have d1 := cells_keepL b1 (Nat.le_refl _) _ _ c1
    go_wp2_with fail
    refine (H2.out _).mono ?_; rintro e w2 ⟨rfl, b2⟩
    have hb2 := hb1.trans (b2.mono hb1.size)
    go_wp2_with fail
    go_ret
    exact ⟨rfl, hb2⟩
  have H3 := Lib.hid (fun w' => gHas_any M O G w')
  have H4 := Lib.hid (fun w' => gHas_any M O H w')
  have HO := Lib.hid (fun w' => Of_any 1 w' (by omega))
  have hl := PK.e_last hf hg
  simp only at hl
  obtain ⟨E, hE⟩ : ∃ E, PK.e ⟨M, O, G, H⟩ = E := ⟨_, rfl⟩
  rw [hE] at hl ⊢
  rw [hg] at H2
  obtain ⟨x1, e1⟩ : ∃ x, hasB M O G = x := ⟨_, rfl⟩
  obtain ⟨x2, e2⟩ : ∃ x, hasB M O H = x := ⟨_, rfl⟩
  obtain ⟨x3, e3⟩ : ∃ x, (G.toList == (enc 1).toList) = x := ⟨_, rfl⟩
  obtain ⟨x4, e4⟩ : ∃ x, (H.toList == (enc 1).toList) = x := ⟨_, rfl⟩
  obtain ⟨x5, e5⟩ : ∃ x, (G.toList == H.toList) = x := ⟨_, rfl⟩
  rw [e1] at H3 hl
  rw [e2] at H4 hl
  have hone : PK.one ⟨M, O, G, H⟩ = (x3 || (x4 || x5)) := by rw [← e3, ← e4, ← e5]; rfl
  rw [hone] at hl
  clear hone
  have HL := Lib.hid hl
  generalize enc 1 = o at HO e3 e4
  clear e1 e2 hl hE hf hg hY
  have fin : ∀ x, ((x = true) ∧ E = 13) ∨ (x = false ∧ E = 0) → True := fun _ _ => trivial
  clear fin
  go_enter Tryz.func17, Tryz.ntmps17
  go_wp2_with fail
  refine (H1.out _).mono ?_; rintro e w1 ⟨rfl, b1⟩
  replace hb := hb.trans (b1.mono hb.size)
  replace c0 := cells_keepL b1 (Nat.le_refl _) _ _ c0
  replace c1 := cells_keepL b1 (Nat.le_refl _) _ _ c1
  replace c2 := cells_keepL b1 (Nat.le_refl _) _ _ c2
  replace c3 := cells_keepL b1 (Nat.le_refl _) _ _ c3
  go_wp2_with fail
  refine (H2.out _).mono ?_; rintro e w2 ⟨rfl, b2⟩
  replace hb := hb.trans (b2.mono hb.size)
  replace c0 := cells_keepL b2 (Nat.le_refl _) _ _ c0
  replace c1 := cells_keepL b2 (Nat.le_refl _) _ _ c1
  replace c2 := cells_keepL b2 (Nat.le_refl _) _ _ c2
  replace c3 := cells_keepL b2 (Nat.le_refl _) _ _ c3
  go_wp2_with fail
  refine (HO.out _).mono ?_; rintro e w3 ⟨rfl, b3⟩
  replace hb := hb.trans (b3.mono hb.size)
  replace c0 := cells_keepL b3 (Nat.le_refl _) _ _ c0
  replace c1 := cells_keepL b3 (Nat.le_refl _) _ _ c1
  replace c2 := cells_keepL b3 (Nat.le_refl _) _ _ c2
  replace c3 := cells_keepL b3 (Nat.le_refl _) _ _ c3
  clear b1 b2 b3 H1 H2 HO
  go_wp2_with fail
  refine (H3.out _).mono ?_; rintro e w4 ⟨rfl, b4⟩
  replace hb := hb.trans (b4.mono hb.size)
  replace c0 := cells_keepL b4 (Nat.le_refl _) _ _ c0
  replace c1 := cells_keepL b4 (Nat.le_refl _) _ _ c1
  replace c2 := cells_keepL b4 (Nat.le_refl _) _ _ c2
  replace c3 := cells_keepL b4 (Nat.le_refl _) _ _ c3
  clear b4 H3
  cases x1
  · have hE : E = 13 := HL.out
    clear HL H4
    go_wp2_with fail
    go_ret
    exact ⟨by rw [hE]; rfl, hb⟩
  go_wp2_with fail
  refine (H4.out _).mono ?_; rintro e w5 ⟨rfl, b5⟩
  replace hb := hb.trans (b5.mono hb.size)
  replace c2 := cells_keepL b5 (Nat.le_refl _) _ _ c2
  replace c3 := cells_keepL b5 (Nat.le_refl _) _ _ c3
  clear b5 H4 c0 c1
  cases x2
  · have hE : E = 13 := HL.out
    clear HL
    go_wp2_with fail
    go_ret
    exact ⟨by rw [hE]; rfl, hb⟩
  cases x3
  rotate_left
  · have hE : E = 13 := HL.out
    clear HL
    go_wp2_with fail
    go_ret
    exact ⟨by rw [hE]; rfl, hb⟩
  cases x4
  rotate_left
  · have hE : E = 13 := HL.out
    clear HL
    go_wp2_with fail
    go_ret
    exact ⟨by rw [hE]; rfl, hb⟩
  cases x5
  · have hE : E = 0 := HL.out
    clear HL
    go_wp2_with fail
    go_ret
    exact ⟨by rw [hE]; rfl, hb⟩
  · have hE : E = 13 := HL.out
    clear HL
    go_wp2_with fail
    go_ret
    exact ⟨by rw [hE]; rfl, hb⟩
/-- an opening in a variable -/
def OPB (w : World) (b : Nat) (g1 : Bool) (s1 : ByteArray) (g2 : Bool) (s2 : ByteArray) : Prop := w.heap[b]? = some (.cells #[.bool g1, .string s1, .bool g2, .string s2] 52 (0, 0))
section
variable {w w' : World} {b K : Nat} {g1 g2 : Bool} {s1 s2 : ByteArray}
theorem OPB.lt (h : OPB w b g1 s1 g2 s2) : b < w.heap.size := (Array.getElem?_eq_some_iff.1 h).1
theorem OPB.c0 (h : OPB w b g1 s1 g2 s2) : w.cell? ⟨b, 0, none⟩ = some (.bool g1) := by rw [Lib.cell_of_heap h]; rfl
theorem OPB.c1 (h : OPB w b g1 s1 g2 s2) : w.cell? ⟨b, 1, none⟩ = some (.string s1) := by rw [Lib.cell_of_heap h]; rfl
theorem OPB.c2 (h : OPB w b g1 s1 g2 s2) : w.cell? ⟨b, 2, none⟩ = some (.bool g2) := by rw [Lib.cell_of_heap h]; rfl
theorem OPB.c3 (h : OPB w b g1 s1 g2 s2) : w.cell? ⟨b, 3, none⟩ = some (.string s2) := by rw [Lib.cell_of_heap h]; rfl
theorem OPB.new (w : World) (g1 : Bool) (s1 : ByteArray) (g2 : Bool) (s2 : ByteArray) : OPB (w.alloc (.cells #[.bool g1, .string s1, .bool g2, .string s2] 52)) w.heap.size g1 s1 g2 s2 := heap_alloc_new w _
theorem OPB.below (h : OPB w b g1 s1 g2 s2) (hb : Below K w w') (hK : b < K) : OPB w' b g1 s1 g2 s2 := (hb.block b hK).trans h
end
/-- the world behind a boxed key and opening -/
theorem box_ko (w : World) (M O G H : ByteArray) (g1 : Bool) (s1 : ByteArray) (g2 : Bool) (s2 : ByteArray) : ∃ W, (w.alloc (.cells #[.string M, .string O, .string G, .string H] 28)).alloc (.cells #[.bool g1, .string s1, .bool g2, .string s2] 52) = W ∧
    KYB W w.heap.size M O G H ∧ OPB W (w.heap.size + 1) g1 s1 g2 s2 ∧ Below w.heap.size w W := by
  have b1 := (Below.refl _ w).alloc (Nat.le_refl _) (.cells #[.string M, .string O, .string G, .string H] 28)
  have b2 := b1.alloc b1.size (.cells #[.bool g1, .string s1, .bool g2, .string s2] 52)
  have h1 := (KYB.new w M O G H).below ((Below.refl _ (w.alloc (.cells #[.string M, .string O, .string G, .string H] 28))).alloc (Nat.le_refl _) (.cells #[.bool g1, .string s1, .bool g2, .string s2] 52)) (KYB.new w M O G H).lt
  have h2 := OPB.new (w.alloc (.cells #[.string M, .string O, .string G, .string H] 28)) g1 s1 g2 s2
  rw [World.size_alloc] at h2
  exact ⟨_, rfl, h1, h2, b2⟩
theorem two_NS (w : World) (x y : ByteArray) : NS (w.alloc (.cells #[.string x, .string y] 22)) (some ⟨w.heap.size, 0, none⟩) [x, y] := fun k hk => by
  have h : (w.alloc (.cells #[.string x, .string y] 22)).heap[w.heap.size]? = _ := heap_alloc_new w _
  match k, hk with
  | 0, _ => exact ⟨_, 0, rfl, by rw [Lib.cell_of_heap h]; rfl⟩
  | 1, _ => exact ⟨_, 0, rfl, by rw [Lib.cell_of_heap h]; rfl⟩
theorem two_IS (w : World) (g1 : Bool) (s1 : ByteArray) (g2 : Bool) (s2 : ByteArray) : IS (w.alloc (.cells #[.bool g1, .string s1, .bool g2, .string s2] 50)) (some ⟨w.heap.size, 0, none⟩) [(g1, s1), (g2, s2)] := fun k hk => by
  have h : (w.alloc (.cells #[.bool g1, .string s1, .bool g2, .string s2] 50)).heap[w.heap.size]? = _ := heap_alloc_new w _
  match k, hk with
  | 0, _ => exact ⟨_, 0, rfl, by rw [Lib.cell_of_heap h]; rfl, by rw [Lib.cell_of_heap h]; rfl⟩
  | 1, _ => exact ⟨_, 0, rfl, by rw [Lib.cell_of_heap h]; rfl, by rw [Lib.cell_of_heap h]; rfl⟩
set_option maxHeartbeats 4000000 in
theorem pcommit_ok (M O G H : ByteArray) (g1 : Bool) (s1 : ByteArray) (g2 : Bool) (s2 : ByteArray) (w : World) (hf : PK.fm ⟨M, O, G, H⟩ = true) (he : PK.e ⟨M, O, G, H⟩ = 0) (h1 : ivB (g1, s1) = true) (h2 : ivB (g2, s2) = true) :
    Calls Tryz.prog 11 #[.agg #[.string M, .string O, .string G, .string H], .agg #[.bool g1, .string s1, .bool g2, .string s2]] w fun e w' => e = .returned (.tuple #[.string (gpS M O [G, H] [(g1, s1), (g2, s2)]), .int .i64 (gpE M O [G, H] [(g1, s1), (g2, s2)])]) ∧ Below w.heap.size w w' := by
  obtain ⟨W, hW, hY, hP, hb⟩ := box_ko w M O G H g1 s1 g2 s2
  have HF := Lib.hid (fun w' => pformed_any M O G H w')
  have HV := Lib.hid (fun w' => pvalid_any g1 g2 s1 s2 w')
  have HC := Lib.hid (fun w' => pcheck_any M O G H w')
  rw [hf] at HF
  rw [h1, h2] at HV
  rw [he] at HC
  have HPR := Lib.hid (fun w' ao bo (hN : NS w' ao [G, H]) (hI : IS w' bo [(g1, s1), (g2, s2)]) => gProduct_any M O ao bo 2 2 2 2 [G, H] [(g1, s1), (g2, s2)] w' hN hI rfl rfl (by omega) (by omega))
  generalize gpS M O [G, H] [(g1, s1), (g2, s2)] = R at HPR ⊢
  generalize gpE M O [G, H] [(g1, s1), (g2, s2)] = RE at HPR ⊢
  have c0 := hY.c0
  have c1 := hY.c1
  have c2 := hY.c2
  have c3 := hY.c3
  have d0 := hP.c0
  have d1 := hP.c1
  have d2 := hP.c2
  have d3 := hP.c3
  clear hf he h1 h2
  go_enter Tryz.func11, Tryz.ntmps11
  go_wp2_with fail
  clear hW
  refine (HF.out _).mono ?_; rintro e w1 ⟨rfl, b1⟩
  replace hb := hb.trans (b1.mono hb.size)
  replace hY := hY.below b1 hY.lt
  replace hP := hP.below b1 hP.lt
  clear c0 c1 c2 c3 d0 d1 d2 d3 b1
  have d0 := hP.c0
  have d1 := hP.c1
  have d2 := hP.c2
  have d3 := hP.c3
  go_wp2_with fail
  refine (HV.out _).mono ?_; rintro e w2 ⟨rfl, b2⟩
  replace hb := hb.trans (b2.mono hb.size)
  replace hY := hY.below b2 hY.lt
  replace hP := hP.below b2 hP.lt
  clear d0 d1 d2 d3 b2
  have c0 := hY.c0
  have c1 := hY.c1
  have c2 := hY.c2
  have c3 := hY.c3
  go_wp2_with fail
  refine (HC.out _).mono ?_; rintro e w3 ⟨rfl, b3⟩
  replace hb := hb.trans (b3.mono hb.size)
  replace hY := hY.below b3 hY.lt
  replace hP := hP.below b3 hP.lt
  clear c0 c1 c2 c3 b3
  have c0 := hY.c0
  have c1 := hY.c1
  have c2 := hY.c2
  have c3 := hY.c3
  have bN := (Below.refl _ w3).alloc (Nat.le_refl _) (.cells #[.string G, .string H] 22)
  have hNS := two_NS w3 G H
  have d0 := cells_keepL bN (Nat.le_refl _) _ _ hP.c0
  have d1 := cells_keepL bN (Nat.le_refl _) _ _ hP.c1
  have d2 := cells_keepL bN (Nat.le_refl _) _ _ hP.c2
  have d3 := cells_keepL bN (Nat.le_refl _) _ _ hP.c3
  have bI := (Below.refl _ (w3.alloc (.cells #[.string G, .string H] 22))).alloc (Nat.le_refl _) (.cells #[.bool g1, .string s1, .bool g2, .string s2] 50)
  have hIS := two_IS (w3.alloc (.cells #[.string G, .string H] 22)) g1 s1 g2 s2
  have hNS2 := hNS.keepL (cells_keepL bI (Nat.le_refl _))
  rw [World.size_alloc] at hIS
  have hb4 := (hb.trans (bN.mono hb.size)).trans (bI.mono (hb.trans (bN.mono hb.size)).size)
  have HP4 := Lib.hid (HPR.out _ _ _ hNS2 hIS)
  clear HPR hNS hNS2 hIS bN bI
  go_wp2_with fail
  refine HP4.out.mono ?_; rintro e w5 ⟨rfl, b5⟩
  have hb5 := hb4.trans (b5.mono hb4.size)
  clear HP4
  go_wp2_with fail
  go_ret2
  exact ⟨rfl, hb5⟩
set_option maxHeartbeats 4000000 in
theorem popens_ok (M O G H A : ByteArray) (g1 : Bool) (s1 : ByteArray) (g2 : Bool) (s2 : ByteArray) (w : World) (hf : PK.fm ⟨M, O, G, H⟩ = true) (he : PK.e ⟨M, O, G, H⟩ = 0) (h1 : ivB (g1, s1) = true) (h2 : ivB (g2, s2) = true) (hS : gpS M O [G, H] [(g1, s1), (g2, s2)] = A) (hE : gpE M O [G, H] [(g1, s1), (g2, s2)] = 0) :
    Calls Tryz.prog 9 #[.agg #[.string M, .string O, .string G, .string H], .string A, .agg #[.bool g1, .string s1, .bool g2, .string s2]] w fun e w' => e = .returned (.bool true) ∧ Below w.heap.size w w' := by
  obtain ⟨W, hW, hY, hP, hb⟩ := box_ko w M O G H g1 s1 g2 s2
  have HC := Lib.hid (fun w' => pcommit_ok M O G H g1 s1 g2 s2 w' hf he h1 h2)
  rw [hS, hE] at HC
  have c0 := hY.c0
  have c1 := hY.c1
  have c2 := hY.c2
  have c3 := hY.c3
  have d0 := hP.c0
  have d1 := hP.c1
  have d2 := hP.c2
  have d3 := hP.c3
  clear hf he h1 h2 hS hE
  go_enter Tryz.func9, Tryz.ntmps9
  go_wp2_with fail
  clear hW
  refine (HC.out _).mono ?_; rintro e w1 ⟨rfl, b1⟩
  have hb1 := hb.trans (b1.mono hb.size)
  go_wp2_with fail
  go_ret
  exact ⟨by simp, hb1⟩
end Go.Proofs.YtdlbnioidfhhcaaGreat
