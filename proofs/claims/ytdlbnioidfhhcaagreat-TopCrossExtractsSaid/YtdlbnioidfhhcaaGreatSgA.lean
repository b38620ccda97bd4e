import Derived.Test.YtdlbnioidfhhcaaGreatLnG
/- sigma: small numbers, kind, order, below, valid, the limits of a variable. -/
namespace Go.Proofs.YtdlbnioidfhhcaaGreat
open Go.RowKit Num
set_option maxRecDepth 20000
set_option linter.unusedVariables false
theorem sN {n : Nat} (h : n < 65536) : IsN (enc n) n := IsN.mk' ((blen_le_iff n 128).2 (Nat.lt_of_lt_of_le (show n < 256 ^ 2 by omega) (Nat.pow_le_pow_right (by omega) (by omega))))
theorem sF {n : Nat} (h : n < 65536) : fitS n = enc n ∧ fitE n = 0 := fit_ok (sN h).le
theorem sZ {z : Int} (h : z.natAbs < 65536) : ZOk z := (sN h).le
theorem lit_1 : (⟨#[1]⟩ : ByteArray) = enc 1 := by decide +kernel
theorem isI : IsN ⟨#[1]⟩ 1 := ⟨by decide +kernel, by decide +kernel⟩
theorem zbN (n : Nat) : zb (n : Int) = false := decide_eq_false (by omega)
theorem zsN (n : Nat) : zs (n : Int) = enc n := rfl
theorem emE {n : Nat} (h : 0 < n) : emB (enc n) = false := by
  have h1 := zs_empty (n : Int)
  rw [zsN] at h1
  unfold emB
  rw [h1]
  exact decide_eq_false (by omega)
theorem em_pos {s : ByteArray} {n : Nat} (h : IsN s n) (he : emB s = false) : 1 ≤ n := by
  rcases Nat.eq_zero_or_pos n with h0 | h0
  · subst h0; rw [h.eq] at he; revert he; decide +kernel
  · exact h0
theorem put2_other (w : World) (b : Nat) (v0 v1 : Value) (j : Nat) (h : j ≠ b) : ((w.setCell ⟨b, 0, none⟩ v0).setCell ⟨b, 1, none⟩ v1).heap[j]? = w.heap[j]? :=
  (Below.heap_setCell _ _ _ j h).trans (Below.heap_setCell _ _ _ j h)
/-- the product of numbers of at most 8, 16, 24 bytes fits -/
theorem mul_fit {a b i j : Nat} (ha : blen a ≤ i) (hb : blen b ≤ j) : blen (a * b) ≤ i + j := by
  rw [blen_le_iff] at ha hb ⊢
  rw [Nat.pow_add]
  rcases Nat.eq_zero_or_pos b with h | h
  · subst h; exact Nat.mul_pos (Nat.pow_pos (by omega)) (Nat.pow_pos (by omega))
  · exact Nat.lt_of_lt_of_le (Nat.mul_lt_mul_of_pos_right ha h) (Nat.mul_le_mul_left _ (Nat.le_of_lt hb))
/-- sigma.kind -/
def kdI (b : ByteArray) : Int := if emB b = true then 0 else 1
theorem skind_any (b : ByteArray) (w : World) : Calls Tryz.prog 88 #[.agg #[.string b]] w fun e w' => e = .returned (.int .i64 (kdI b)) ∧ Below w.heap.size w w' := by
  have hb := (Below.refl _ w).alloc (Nat.le_refl _) (.cells #[.string b] 77)
  have hV := VrB.new w b
  have c0 := hV.c0
  unfold kdI
  rcases em_cases b with ⟨h1, rfl⟩ | ⟨h1, h2, h3⟩
  · rw [if_pos h1]
    go_enter Tryz.func88, Tryz.ntmps88
    go_wp2_with fail
    go_ret
    exact ⟨rfl, hb⟩
  · rw [if_neg (by rw [h1]; decide)]
    go_enter Tryz.func88, Tryz.ntmps88
    go_wp2_with fail
    go_ret
    exact ⟨rfl, hb⟩
theorem sorder_any (a : StA) (S : StM) (w : World) (hS : SS w a S) (hok : S.ok) :
    Calls Tryz.prog 87 #[.agg #[.slice a.ga S.G.length a.gc, .slice a.va S.V.length a.vc, .slice a.qa S.Q.length a.qc]] w fun e w' => e = .returned (.string (ordL S.G)) ∧ Below w.heap.size w w' := by
  have hb := (Below.refl _ w).alloc (Nat.le_refl _) (.cells #[.slice a.ga S.G.length a.gc, .slice a.va S.V.length a.vc, .slice a.qa S.Q.length a.qc] 42)
  have hX := SXB.new w a S
  have hS0 := hS.below hb (Nat.le_refl _)
  obtain ⟨ga, gc, va, vc, qa, qc⟩ := a
  obtain ⟨G, W, Q⟩ := S
  simp only at hb hX hS0 ⊢
  have hX0 := hX.c0
  have HG := Lib.hid hS0.g
  have l1 : G.length ≤ maxLen := hok.gl
  simp only at hX0 HG
  unfold maxLen at l1
  clear hS hS0 hok hX
  obtain ⟨ng, hng⟩ : ∃ n, G.length = n := ⟨_, rfl⟩
  simp only [hng] at hb hX0 l1 HG ⊢
  have HNG := Lib.hid hng
  obtain ⟨R, hR⟩ : ∃ R, ordL G = R := ⟨_, rfl⟩
  rw [hR]
  have H0 : Hid (ordL (G.drop 0) = R) := hR
  clear hng hR
  go_enter Tryz.func87, Tryz.ntmps87
  go_wp2_with fail
  generalize World.alloc _ _ = w0 at hb hX0 HG ⊢
  go_wp2_with fail
  go_loopw [8] (fun v8 wr => ∃ k : Nat, k ≤ ng ∧ v8 = .int .i64 (k : Int) ∧ Hid (ordL (G.drop k) = R) ∧ Below w0.heap.size w0 wr) (fun v8 _ => ng - (intOf v8).toNat)
  case atStart => exact ⟨0, by omega, rfl, H0, Below.refl _ _⟩
  case round =>
    clear H0
    obtain ⟨k, hk, rfl, hP, hB⟩ := hrel
    have hbw := hb.trans (hB.mono hb.size)
    have d0 := cells_keepL hB (Nat.le_refl _) _ _ hX0
    by_cases hlt : k < ng
    · have hkG : k < G.length := by rw [HNG.out]; exact hlt
      obtain ⟨b, off, rfl, e0, e1⟩ := (HG.out.keep (cells_keepL hB (Nat.le_refl _))) k hkG
      have hw := hP.out
      rw [List.drop_eq_getElem_cons hkG] at hw
      generalize G[k] = x at e0 e1 hw
      obtain ⟨M, O⟩ := x
      simp only [ordL] at e0 e1 hw
      have hN := GB.new wr M O
      have hbN := (Below.refl _ wr).alloc (Nat.le_refl _) (.cells #[.string M, .string O] 26)
      have hbe := hbw.trans (hbN.mono hbw.size)
      have hB2 := hB.trans (hbN.mono hB.size)
      have n0 := hN.c0
      have n1 := hN.c1
      clear hN hP hkG hB hbw
      rcases em_cases O with ⟨h1, rfl⟩ | ⟨h1, h2, h3⟩
      · rw [if_pos h1] at hw
        have HW := Lib.hid hw
        clear hw h1
        go_wp2_with fail
        exact ⟨⟨k + 1, by omega, by go_num, HW, hB2⟩, by simp [intOf]; omega⟩
      · rw [if_neg (by rw [h1]; decide)] at hw
        have HW := Lib.hid hw
        clear hw h1
        go_wp2_with fail
        go_ret
        exact ⟨by rw [HW.out]; rfl, hbe⟩
    · obtain rfl : k = ng := by omega
      have hw := hP.out
      rw [List.drop_of_length_le (by rw [HNG.out]; omega)] at hw
      have HW := Lib.hid hw
      clear hP hw
      go_wp2_with fail
      go_ret
      exact ⟨by rw [← HW.out]; rfl, hbw⟩
theorem xorder_any (a : StA) (S : StM) (w : World) (hS : SS w a S) (hok : S.ok) :
    Calls Tryz.prog 31 #[.agg #[.slice a.ga S.G.length a.gc, .slice a.va S.V.length a.vc, .slice a.qa S.Q.length a.qc]] w fun e w' => e = .returned (.string (ordL S.G)) ∧ Below w.heap.size w w' := by
  have hb := (Below.refl _ w).alloc (Nat.le_refl _) (.cells #[.slice a.ga S.G.length a.gc, .slice a.va S.V.length a.vc, .slice a.qa S.Q.length a.qc] 42)
  have hX := SXB.new w a S
  have hS0 := hS.below hb (Nat.le_refl _)
  obtain ⟨ga, gc, va, vc, qa, qc⟩ := a
  obtain ⟨G, W, Q⟩ := S
  simp only at hb hX hS0 ⊢
  have hX0 := hX.c0
  have HG := Lib.hid hS0.g
  have l1 : G.length ≤ maxLen := hok.gl
  simp only at hX0 HG
  unfold maxLen at l1
  clear hS hS0 hok hX
  obtain ⟨ng, hng⟩ : ∃ n, G.length = n := ⟨_, rfl⟩
  simp only [hng] at hb hX0 l1 HG ⊢
  have HNG := Lib.hid hng
  obtain ⟨R, hR⟩ : ∃ R, ordL G = R := ⟨_, rfl⟩
  rw [hR]
  have H0 : Hid (ordL (G.drop 0) = R) := hR
  clear hng hR
  go_enter Tryz.func31, Tryz.ntmps31
  go_wp2_with fail
  generalize World.alloc _ _ = w0 at hb hX0 HG ⊢
  go_wp2_with fail
  go_loopw [8] (fun v8 wr => ∃ k : Nat, k ≤ ng ∧ v8 = .int .i64 (k : Int) ∧ Hid (ordL (G.drop k) = R) ∧ Below w0.heap.size w0 wr) (fun v8 _ => ng - (intOf v8).toNat)
  case atStart => exact ⟨0, by omega, rfl, H0, Below.refl _ _⟩
  case round =>
    clear H0
    obtain ⟨k, hk, rfl, hP, hB⟩ := hrel
    have hbw := hb.trans (hB.mono hb.size)
    have d0 := cells_keepL hB (Nat.le_refl _) _ _ hX0
    by_cases hlt : k < ng
    · have hkG : k < G.length := by rw [HNG.out]; exact hlt
      obtain ⟨b, off, rfl, e0, e1⟩ := (HG.out.keep (cells_keepL hB (Nat.le_refl _))) k hkG
      have hw := hP.out
      rw [List.drop_eq_getElem_cons hkG] at hw
      generalize G[k] = x at e0 e1 hw
      obtain ⟨M, O⟩ := x
      simp only [ordL] at e0 e1 hw
      have hN := GB.new wr M O
      have hbN := (Below.refl _ wr).alloc (Nat.le_refl _) (.cells #[.string M, .string O] 26)
      have hbe := hbw.trans (hbN.mono hbw.size)
      have hB2 := hB.trans (hbN.mono hB.size)
      have n0 := hN.c0
      have n1 := hN.c1
      clear hN hP hkG hB hbw
      rcases em_cases O with ⟨h1, rfl⟩ | ⟨h1, h2, h3⟩
      · rw [if_pos h1] at hw
        have HW := Lib.hid hw
        clear hw h1
        go_wp2_with fail
        exact ⟨⟨k + 1, by omega, by go_num, HW, hB2⟩, by simp [intOf]; omega⟩
      · rw [if_neg (by rw [h1]; decide)] at hw
        have HW := Lib.hid hw
        clear hw h1
        go_wp2_with fail
        go_ret
        exact ⟨by rw [HW.out]; rfl, hbe⟩
    · obtain rfl : k = ng := by omega
      have hw := hP.out
      rw [List.drop_of_length_le (by rw [HNG.out]; omega)] at hw
      have HW := Lib.hid hw
      clear hP hw
      go_wp2_with fail
      go_ret
      exact ⟨by rw [← HW.out]; rfl, hbw⟩
set_option maxHeartbeats 1000000 in
theorem svalid_any (ao : Option Addr) (c n : Nat) (l : List (Bool × ByteArray)) (w : World) (hl : IS w ao l) (hn : l.length = n) (h1 : n ≤ maxLen) :
    Calls Tryz.prog 62 #[.slice ao n c] w fun e w' => e = .returned (.bool (l.all ivB)) ∧ Below w.heap.size w w' := by
  unfold maxLen at h1
  have HN := Lib.hid hn
  have HL := Lib.hid hl
  obtain ⟨R, hR⟩ : ∃ R, l.all ivB = R := ⟨_, rfl⟩
  rw [hR]
  have H0 : Hid ((l.drop 0).all ivB = R) := hR
  clear hn hl hR
  go_enter Tryz.func62, Tryz.ntmps62
  go_wp2_with fail
  go_loopw [7] (fun v7 wr => ∃ k : Nat, k ≤ n ∧ v7 = .int .i64 k ∧ Hid ((l.drop k).all ivB = R) ∧ Below w.heap.size w wr) (fun v7 _ => n - (intOf v7).toNat)
  case atStart => exact ⟨0, by omega, rfl, H0, Below.refl _ _⟩
  case round =>
    clear H0
    obtain ⟨k, hk, rfl, hP, hB⟩ := hrel
    by_cases hlt : k < n
    · have hkl : k < l.length := by rw [HN.out]; exact hlt
      obtain ⟨b, off, rfl, d0, d1⟩ := (HL.out.keepL (cells_keepL hB (Nat.le_refl _))) k hkl
      have hw := hP.out
      rw [List.drop_eq_getElem_cons hkl, List.all_cons] at hw
      generalize l[k] = X at d0 d1 hw
      obtain ⟨g, s⟩ := X
      simp only at d0 d1 hw
      have hbN := (Below.refl _ wr).alloc (Nat.le_refl _) (.cells #[.bool g, .string s] 50)
      have hI := IBL.new wr g s
      have i0 := hI.c0
      have i1 := hI.c1
      have hB1 := hB.trans (hbN.mono hB.size)
      cases he : ivB (g, s)
      · have HV := Lib.hid (ivalidW he)
        rw [he, Bool.false_and] at hw
        have HW := Lib.hid hw
        clear hw he hP hkl
        go_wp2_with fail
        refine (HV.out _).mono ?_; rintro e w1 ⟨rfl, b1⟩
        have hB2 := hB1.trans (b1.mono hB1.size)
        go_wp2_with fail
        go_ret
        exact ⟨ret_bool HW.out, hB2⟩
      · have HV := Lib.hid (ivalidW he)
        rw [he, Bool.true_and] at hw
        have HW := Lib.hid hw
        clear hw he hP hkl
        go_wp2_with fail
        refine (HV.out _).mono ?_; rintro e w1 ⟨rfl, b1⟩
        have hB2 := hB1.trans (b1.mono hB1.size)
        go_wp2_with fail
        exact ⟨⟨k + 1, by omega, by go_num, HW, hB2⟩, by simp [intOf]; omega⟩
    · obtain rfl : k = n := by omega
      have hw := hP.out
      rw [List.drop_of_length_le (by rw [HN.out]; omega), List.all_nil] at hw
      have HW := Lib.hid hw
      clear hP hw
      go_wp2_with fail
      go_ret
      exact ⟨ret_bool HW.out, hB⟩
/-- sigma.below -/
def blB (b : ByteArray) (g : Bool) (x l : Nat) : Bool := decide (x < l) && (!emB b || !g)
theorem sbelow_any (b : ByteArray) (g : Bool) (s l : ByteArray) (x y : Nat) (w : World) (hs : IsN s x) (hl : IsN l y) :
    Calls Tryz.prog 63 #[.agg #[.string b], .agg #[.bool g, .string s], .string l] w fun e w' => e = .returned (.bool (blB b g x y)) ∧ Below w.heap.size w w' := by
  have hb1 := (Below.refl _ w).alloc (Nat.le_refl _) (.cells #[.string b] 77)
  have hb := hb1.alloc hb1.size (.cells #[.bool g, .string s] 50)
  have hV := (VrB.new w b).below ((Below.refl _ (w.alloc (.cells #[.string b] 77))).alloc (Nat.le_refl _) (.cells #[.bool g, .string s] 50)) (VrB.new w b).lt
  have hI := IBL.new (w.alloc (.cells #[.string b] 77)) g s
  rw [World.size_alloc] at hI
  have c0 := hV.c0
  have i0 := hI.c0
  have i1 := hI.c1
  have HK := Lib.hid (fun w' => skind_any b w')
  unfold blB
  unfold kdI at HK
  rcases ncmpLt x y with ⟨hlt, hz⟩ | ⟨hlt, hz | hz⟩
  · rw [decide_eq_true hlt]
    have HC := Lib.hid (cmpL hs hl hz)
    cases he : emB b
    · rw [he] at HK
      clear hs hl hz hlt
      go_enter Tryz.func63, Tryz.ntmps63
      go_wp2_with fail
      refine (HC.out _).mono ?_; rintro e w1 ⟨rfl, rfl⟩
      go_wp2_with fail
      refine (HK.out _).mono ?_; rintro e w2 ⟨rfl, b2⟩
      go_wp2_with fail
      go_ret
      exact ⟨by cases g <;> rfl, hb.trans (b2.mono hb.size)⟩
    · rw [he] at HK
      clear hs hl hz hlt
      go_enter Tryz.func63, Tryz.ntmps63
      go_wp2_with fail
      refine (HC.out _).mono ?_; rintro e w1 ⟨rfl, rfl⟩
      go_wp2_with fail
      refine (HK.out _).mono ?_; rintro e w2 ⟨rfl, b2⟩
      have j0 := cells_keepL b2 (Nat.le_refl _) _ _ i0
      go_wp2_with fail
      go_ret
      exact ⟨by cases g <;> rfl, hb.trans (b2.mono hb.size)⟩
  all_goals
    rw [decide_eq_false hlt]
    have HC := Lib.hid (cmpL hs hl hz)
    clear hs hl hz hlt HK
    go_enter Tryz.func63, Tryz.ntmps63
    go_wp2_with fail
    refine (HC.out _).mono ?_; rintro e w1 ⟨rfl, rfl⟩
    go_wp2_with fail
    go_ret
    exact ⟨rfl, hb⟩
/-- the limits of a variable in a variable -/
def LMB (w : World) (b : Nat) (s t : ByteArray) : Prop := w.heap[b]? = some (.cells #[.string s, .string t] 122 (0, 0))
section
variable {w w' : World} {b K : Nat} {s t : ByteArray}
theorem LMB.lt (h : LMB w b s t) : b < w.heap.size := (Array.getElem?_eq_some_iff.1 h).1
theorem LMB.c0 (h : LMB w b s t) : w.cell? ⟨b, 0, none⟩ = some (.string s) := by rw [Lib.cell_of_heap h]; rfl
theorem LMB.c1 (h : LMB w b s t) : w.cell? ⟨b, 1, none⟩ = some (.string t) := by rw [Lib.cell_of_heap h]; rfl
theorem LMB.f (h : LMB w b s t) (i : Nat) : w.frozen? ⟨b, i, none⟩ = false := Lib.frozen_of_heap h i
theorem LMB.new (w : World) (s t : ByteArray) : LMB (w.alloc (.cells #[.string s, .string t] 122)) w.heap.size s t := heap_alloc_new w _
theorem LMB.below (h : LMB w b s t) (hb : Below K w w') (hK : b < K) : LMB w' b s t := (hb.block b hK).trans h
theorem LMB.alloc (h : LMB w b s t) (o : Obj) : LMB (w.alloc o) b s t := (Below.heap_alloc w o b h.lt).trans h
theorem LMB.drew (h : LMB w b s t) : LMB w.drew b s t := h
theorem LMB.put (h : LMB w b s t) (s' t' : ByteArray) : LMB ((w.setCell ⟨b, 0, none⟩ (.string s')).setCell ⟨b, 1, none⟩ (.string t')) b s' t' := put1 (put1 h)
end
/-- a setting in a variable -/
def STB (w : World) (b : Nat) (s t q : ByteArray) : Prop := w.heap[b]? = some (.cells #[.string s, .string t, .string q] 141 (0, 0))
section
variable {w w' : World} {b K : Nat} {s t q : ByteArray}
theorem STB.lt (h : STB w b s t q) : b < w.heap.size := (Array.getElem?_eq_some_iff.1 h).1
theorem STB.c0 (h : STB w b s t q) : w.cell? ⟨b, 0, none⟩ = some (.string s) := by rw [Lib.cell_of_heap h]; rfl
theorem STB.c1 (h : STB w b s t q) : w.cell? ⟨b, 1, none⟩ = some (.string t) := by rw [Lib.cell_of_heap h]; rfl
theorem STB.c2 (h : STB w b s t q) : w.cell? ⟨b, 2, none⟩ = some (.string q) := by rw [Lib.cell_of_heap h]; rfl
theorem STB.f (h : STB w b s t q) (i : Nat) : w.frozen? ⟨b, i, none⟩ = false := Lib.frozen_of_heap h i
theorem STB.new (w : World) (s t q : ByteArray) : STB (w.alloc (.cells #[.string s, .string t, .string q] 141)) w.heap.size s t q := heap_alloc_new w _
theorem STB.below (h : STB w b s t q) (hb : Below K w w') (hK : b < K) : STB w' b s t q := (hb.block b hK).trans h
theorem STB.alloc (h : STB w b s t q) (o : Obj) : STB (w.alloc o) b s t q := (Below.heap_alloc w o b h.lt).trans h
theorem STB.drew (h : STB w b s t q) : STB w.drew b s t q := h
end
theorem info_lim : (Tryz.prog.info? 122).map (·.size) = some 2 := by kernel_rfl
theorem bodyPost_lim {fn : Func} {R : Ending → World → Prop} {p u : Tmp} {a : Act} {W : World} {b : Nat} {s t : ByteArray} {v : Value} (h : fn.results = #[.cell p 122, .tmp u]) (hp : a.tmps.getD p undef = .pointer (some ⟨b, 0, none⟩)) (hu : a.tmps.getD u undef = v)
    (hb : LMB W b s t) (hd : a.defers = []) (hR : R (.returned (.tuple #[.agg #[.string s, .string t], v])) W) : bodyPost Tryz.prog fn R Exit.ret a W := by
  refine bodyPost_ret (v := .tuple #[.agg #[.string s, .string t], v]) (w := W) ?_ hd hR
  rw [results_cell_tmp h, hp, hu]
  simp [asAddr, run_loadVar_row W b _ _ _ (0, 0) _ hb Tryz.underlying122 rfl info_lim]
theorem smodular_any (C L q b : ByteArray) (w : World) :
    Calls Tryz.prog 89 #[.agg #[.string C, .string L, .string q], .string b] w fun e w' => e = .returned (.tuple #[.agg #[.string q, .string q], .int .i64 0]) ∧ Below w.heap.size w w' := by
  have hb1 := (Below.refl _ w).alloc (Nat.le_refl _) (.cells #[.string C, .string L, .string q] 141)
  have hb := hb1.alloc hb1.size (.cells #[.string ⟨#[]⟩, .string ⟨#[]⟩] 122)
  have hS := (STB.new w C L q).alloc (.cells #[.string ⟨#[]⟩, .string ⟨#[]⟩] 122)
  have hM := LMB.new (w.alloc (.cells #[.string C, .string L, .string q] 141)) ⟨#[]⟩ ⟨#[]⟩
  rw [World.size_alloc] at hM
  have c2 := hS.c2
  have m0 := hM.c0
  have m1 := hM.c1
  have f0 := hM.f 0
  have f1 := hM.f 1
  go_enter Tryz.func89, Tryz.ntmps89
  go_wp2_with fail
  have hz := LMB.new (w.alloc (.cells #[.string C, .string L, .string q] 141)) q q
  rw [World.size_alloc] at hz
  exact bodyPost_lim rfl rfl rfl hz rfl ⟨rfl, hb1.alloc hb1.size _⟩
set_option maxHeartbeats 2000000 in
theorem sintegral_any (C L q b : ByteArray) (c l v : Nat) (w : World) (hC : IsN C c) (hL : IsN L l) (hb' : IsN b v) (s1 : C.size ≤ 8) (s2 : L.size ≤ 8) (s3 : b.size ≤ 8) (hc : 1 ≤ c) (hl : 1 ≤ l) (hv : 1 ≤ v) :
    Calls Tryz.prog 90 #[.agg #[.string C, .string L, .string q], .string b] w fun e w' => e = .returned (.tuple #[.agg #[.string (enc (l * c * v)), .string (enc (l * c * v - (c - 1) * (v - 1)))], .int .i64 0]) ∧ Below w.heap.size w w' := by
  rw [hC.size] at s1
  rw [hL.size] at s2
  rw [hb'.size] at s3
  have k1 := mul_fit s2 s1
  have k2 := mul_fit k1 s3
  have k3 := mul_fit (Nat.le_trans (blen_mono (Nat.sub_le c 1)) s1) (Nat.le_trans (blen_mono (Nat.sub_le v 1)) s3)
  have hle : (c - 1) * (v - 1) ≤ l * c * v := Nat.le_trans (Nat.mul_le_mul (Nat.sub_le c 1) (Nat.sub_le v 1)) (by rw [Nat.mul_assoc]; exact Nat.le_mul_of_pos_left _ hl)
  have H1 := Lib.hid (fun w' => Mul_any L C l c w' hL hC)
  have H2 := Lib.hid (fun w' => Mul_any (enc (l * c)) b (l * c) v w' (IsN.mk' (by omega)) hb')
  have H3 := Lib.hid (fun w' => Sub_any C (enc 1) c 1 w' hC (sN (by omega)) hc)
  have H4 := Lib.hid (fun w' => Sub_any b (enc 1) v 1 w' hb' (sN (by omega)) hv)
  have H5 := Lib.hid (fun w' => Mul_any (enc (c - 1)) (enc (v - 1)) (c - 1) (v - 1) w' (IsN.mk' (Nat.le_trans (blen_mono (Nat.sub_le c 1)) (by omega))) (IsN.mk' (Nat.le_trans (blen_mono (Nat.sub_le v 1)) (by omega))))
  have H6 := Lib.hid (fun w' => Sub_any (enc (l * c * v)) (enc ((c - 1) * (v - 1))) _ _ w' (IsN.mk' (by omega)) (IsN.mk' (by omega)) hle)
  have H0 := Lib.hid (fun w' => Of_any 1 w' (by omega))
  rw [(fit_ok (a := l * c) (by omega)).1, (fit_ok (a := l * c) (by omega)).2] at H1
  rw [(fit_ok (a := l * c * v) (by omega)).1, (fit_ok (a := l * c * v) (by omega)).2] at H2
  rw [(fit_ok (a := (c - 1) * (v - 1)) (by omega)).1, (fit_ok (a := (c - 1) * (v - 1)) (by omega)).2] at H5
  generalize enc (l * c * v - (c - 1) * (v - 1)) = T at H6 ⊢
  generalize enc ((c - 1) * (v - 1)) = D at H5 H6 ⊢
  generalize enc (c - 1) = C1 at H3 H5 ⊢
  generalize enc (v - 1) = V1 at H4 H5 ⊢
  generalize enc (l * c * v) = M at H2 H6 ⊢
  generalize enc (l * c) = LC at H1 H2 ⊢
  generalize enc 1 = O at H0 H3 H4 ⊢
  clear hC hL hb' s1 s2 s3 k1 k2 k3 hle hc hl hv
  have hb1 := (Below.refl _ w).alloc (Nat.le_refl _) (.cells #[.string C, .string L, .string q] 141)
  have hb := hb1.alloc hb1.size (.cells #[.string ⟨#[]⟩, .string ⟨#[]⟩] 122)
  have hS := (STB.new w C L q).alloc (.cells #[.string ⟨#[]⟩, .string ⟨#[]⟩] 122)
  have hM := LMB.new (w.alloc (.cells #[.string C, .string L, .string q] 141)) ⟨#[]⟩ ⟨#[]⟩
  rw [World.size_alloc] at hM
  go_enter Tryz.func90, Tryz.ntmps90
  go_wp2_with fail
  generalize World.alloc (World.alloc _ _) _ = w0 at hb hS hM ⊢
  refine (H0.out _).mono ?_; rintro e w1 ⟨rfl, b1⟩
  replace hS := hS.below b1 hS.lt
  replace hM := hM.below b1 hM.lt
  replace hb := hb.trans (b1.mono hb.size)
  clear b1 hb1
  have c0 := hS.c0
  have c1 := hS.c1
  go_wp2_with fail
  refine (H1.out _).mono ?_; rintro e w2 ⟨rfl, b2⟩
  replace hS := hS.below b2 hS.lt
  replace hM := hM.below b2 hM.lt
  replace hb := hb.trans (b2.mono hb.size)
  clear b2 c0 c1
  go_wp2_with fail
  refine (H2.out _).mono ?_; rintro e w3 ⟨rfl, b3⟩
  replace hS := hS.below b3 hS.lt
  replace hM := hM.below b3 hM.lt
  replace hb := hb.trans (b3.mono hb.size)
  clear b3
  have c0 := hS.c0
  go_wp2_with fail
  refine (H3.out _).mono ?_; rintro e w4 ⟨rfl, b4⟩
  replace hM := hM.below b4 hM.lt
  replace hb := hb.trans (b4.mono hb.size)
  clear b4 c0 hS
  go_wp2_with fail
  refine (H4.out _).mono ?_; rintro e w5 ⟨rfl, b5⟩
  replace hM := hM.below b5 hM.lt
  replace hb := hb.trans (b5.mono hb.size)
  clear b5
  go_wp2_with fail
  refine (H5.out _).mono ?_; rintro e w6 ⟨rfl, b6⟩
  replace hM := hM.below b6 hM.lt
  replace hb := hb.trans (b6.mono hb.size)
  clear b6
  go_wp2_with fail
  refine (H6.out _).mono ?_; rintro e w7 ⟨rfl, b7⟩
  replace hM := hM.below b7 hM.lt
  replace hb := hb.trans (b7.mono hb.size)
  clear b7
  have m0 := hM.c0
  have m1 := hM.c1
  have f0 := hM.f 0
  have f1 := hM.f 1
  go_wp2_with fail
  refine bodyPost_lim rfl rfl rfl (hM.put M T) rfl ⟨rfl, ?_⟩
  exact (hb.setCell (p := ⟨w.heap.size + 1, 0, none⟩) (Nat.le_succ _) _).setCell (p := ⟨w.heap.size + 1, 1, none⟩) (Nat.le_succ _) _
end Go.Proofs.YtdlbnioidfhhcaaGreat
